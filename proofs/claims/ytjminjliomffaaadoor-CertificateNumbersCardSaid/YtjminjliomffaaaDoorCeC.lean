import Derived.Test.YtjminjliomffaaaDoorCeA
/- certificate.wellFormed. -/
namespace Go.Proofs.YtjminjliomffaaaDoor
open Go.RowKit Num
set_option maxRecDepth 20000
set_option linter.unusedVariables false
/-- a step in a variable -/
def StB (w : World) (b : Nat) (P A v : Value) : Prop := w.heap[b]? = some (.cells #[P, A, v] 44 (0, 0))
section
variable {w w' : World} {b : Nat} {P A v : Value}
theorem StB.lt (h : StB w b P A v) : b < w.heap.size := (Array.getElem?_eq_some_iff.1 h).1
theorem StB.c0 (h : StB w b P A v) : w.cell? ⟨b, 0, none⟩ = some P := by rw [Lib.cell_of_heap h]; rfl
theorem StB.c1 (h : StB w b P A v) : w.cell? ⟨b, 1, none⟩ = some A := by rw [Lib.cell_of_heap h]; rfl
theorem StB.c2 (h : StB w b P A v) : w.cell? ⟨b, 2, none⟩ = some v := by rw [Lib.cell_of_heap h]; rfl
theorem StB.new (w : World) : StB (w.alloc (.cells #[P, A, v] 44)) w.heap.size P A v := heap_alloc_new w _
theorem StB.below {K : Nat} (h : StB w b P A v) (hb : Below K w w') (hK : b < K) : StB w' b P A v := (hb.block b hK).trans h
theorem StB.drew (h : StB w b P A v) : StB w.drew b P A v := h
end
theorem keepB {w w1 w2 : World} {P A v : Value} (h : StB w1 w.heap.size P A v ∧ Below w.heap.size w w1) (b : Below w1.heap.size w1 w2) : StB w2 w.heap.size P A v ∧ Below w.heap.size w w2 :=
  ⟨h.1.below b h.1.lt, h.2.trans (b.mono h.2.size)⟩
theorem keepC {w w1 w2 : World} {P A v : Value} (h : w1.cell? ⟨w.heap.size, 0, none⟩ = some P ∧ w1.cell? ⟨w.heap.size, 1, none⟩ = some A ∧ StB w1 w.heap.size P A v ∧ Below w.heap.size w w1) (b : Below w1.heap.size w1 w2) : w2.cell? ⟨w.heap.size, 0, none⟩ = some P ∧ w2.cell? ⟨w.heap.size, 1, none⟩ = some A ∧ StB w2 w.heap.size P A v ∧ Below w.heap.size w w2 :=
  ⟨(h.2.2.1.below b h.2.2.1.lt).c0, (h.2.2.1.below b h.2.2.1.lt).c1, h.2.2.1.below b h.2.2.1.lt, h.2.2.2.trans (b.mono h.2.2.2.size)⟩
/-- a number that is valid is in its form -/
theorem isN_of {s : ByteArray} (h : validB s = true) : IsN s (nv s) := by
  unfold validB at h
  simp at h
  exact ⟨(enc_nv h.2).symm, by rw [← size_enc, enc_nv h.2]; exact h.1⟩
theorem validQ {s : ByteArray} {b : Bool} (h : validB s = b) : ∀ w, Calls Tryd.prog 26 #[.string s] w fun e w' => e = .returned (.bool b) ∧ w' = w := fun w => (Valid_any s w).mono fun _ _ ⟨h1, h2⟩ => ⟨by rw [h1, h], h2.symm⟩
theorem validW {s : ByteArray} {b : Bool} (h : validB s = b) : ∀ w, Calls Tryd.prog 26 #[.string s] w fun e w' => e = .returned (.bool b) ∧ Below w.heap.size w w' := fun w => (Valid_any s w).mono fun _ _ ⟨h1, h2⟩ => ⟨by rw [h1, h], by subst h2; exact Below.refl _ _⟩
theorem cmpW {s t : ByteArray} {a b : Nat} {z : Int} (hs : IsN s a) (ht : IsN t b) (h : ncmp a b = z) : ∀ w, Calls Tryd.prog 47 #[.string s, .string t] w fun e w' => e = .returned (.int .i64 z) ∧ Below w.heap.size w w' := fun w => (Cmp_any s t a b w hs ht).mono fun _ _ ⟨h1, h2⟩ => ⟨by rw [h1, h], by subst h2; exact Below.refl _ _⟩
/-- the index before -/
def loF (F : List Int) (k : Nat) : Int := if k = 0 then -1 else F.getD (k - 1) 0
theorem tl_neC {s : ByteArray} (h0 : s.size ≠ 0) : (s.toList = [] → False) ∧ s.toList.isEmpty = false := by
  have h1 : s.toList ≠ [] := fun e => h0 (by
    rw [ByteArray.toList_eq] at e
    show s.data.size = 0
    rw [← Array.length_toList, e]; rfl)
  refine ⟨h1, ?_⟩
  cases hh : s.toList with
  | nil => exact absurd hh h1
  | cons a l => rfl
theorem loF_succ {F : List Int} {k : Nat} (hk : k < F.length) : loF F (k + 1) = F[k] := by
  unfold loF
  rw [if_neg (by omega), Nat.add_sub_cancel]
  simp [List.getD_eq_getElem?_getD, hk]
theorem loF_pos {F : List Int} {k : Nat} (hk : k - 1 < F.length) (h0 : 0 < k) : loF F k = F[k - 1] := by
  unfold loF
  rw [if_neg (by omega)]
  simp [List.getD_eq_getElem?_getD, hk]
theorem asc_at {i : Nat} {lo : Int} {F : List Int} {k : Nat} (hk : k < F.length) : asc i lo (F.drop k) = (decide (lo < F[k]) && (decide (F[k] < (i : Int)) && asc i F[k] (F.drop (k + 1)))) := by
  rw [List.drop_eq_getElem_cons hk]; rfl
/-- behind the indices: is the base in its range? -/
def bsB (P A : ByteArray) : Bool := validB A && (decide (2 ≤ nv A) && decide (nv A < nv P))
/-- what wellFormed answers -/
def WFP (w : World) (V : Bool) : Ending → World → Prop := fun e w' => e = .returned (.bool V) ∧ Below w.heap.size w w'
set_option maxHeartbeats 4000000 in
theorem wf_low (a : Option Addr) (r c i : Nat) (R : List StR) (w : World) (hR : CS w a R) (hr : R.length = r) (hi : i < R.length) (h : validB R[i].1 = false ∨ (validB R[i].1 = true ∧ nv R[i].1 < 2)) :
    Calls Tryd.prog 36 #[.slice a r c, .int .i64 (i : Int)] w (WFP w false) := by
  unfold WFP
  rw [hr] at hi
  obtain ⟨b, off, rfl, d0, d1, d2, hF⟩ := hR i (by omega)
  generalize R[i] = x at d0 d1 d2 hF h
  obtain ⟨P, A, fa, fc, F⟩ := x
  simp only at d0 d1 d2 hF h
  have hS := StB.new (P := .string P) (A := .string A) (v := .slice fa F.length fc) w
  have hb := (Below.refl _ w).alloc (Nat.le_refl _) (.cells #[.string P, .string A, .slice fa F.length fc] 44)
  rcases h with h | ⟨h, h2⟩
  · have HV := Lib.hid (validQ h)
    clear h hR hF
    go_enter Tryd.func36, Tryd.ntmps36
    go_wp2_with fail
    generalize World.alloc _ _ = w0 at hS hb ⊢
    have c0 := hS.c0
    go_quiet ((go_at_call 26; exact Calls.quiet_of_same (HV.out _)))
    have hq : Below w.heap.size w (w0.drewN nq) := hb.trans (Below.drewN _ _ _)
    generalize World.drewN _ _ = w2 at hq ⊢
    go_wp2_with fail
    go_ret
    exact ⟨rfl, hq⟩
  · have HV := Lib.hid (validW h)
    have HC := Lib.hid (cmpW (z := -1) (isN_of h) isC2 (if_pos h2))
    clear h h2 hR hF
    go_enter Tryd.func36, Tryd.ntmps36
    go_wp2_with fail
    generalize World.alloc _ _ = w0 at hS hb ⊢
    have c0 := hS.c0
    have c1 := hS.c1
    go_region_held3 (fun w' => w'.cell? ⟨w.heap.size, 0, none⟩ = some (.string P) ∧ w'.cell? ⟨w.heap.size, 1, none⟩ = some (.string A) ∧ StB w' w.heap.size (.string P) (.string A) (.slice fa F.length fc) ∧ Below w.heap.size w w')
      (first | exact ⟨c0, c1, hS, hb.drew⟩ | assumption | (refine keepC ?_ bn; assumption))
      (first
        | (go_at_call 26; (with_reducible refine (HV.out _).mono ?_); rintro e wn ⟨rfl, bn⟩)
        | (go_at_call 46; (with_reducible refine (cOf2 _).mono ?_); rintro e wn ⟨rfl, bn⟩)
        | (go_at_call 47; (with_reducible refine (HC.out _).mono ?_); rintro e wn ⟨rfl, bn⟩))
    all_goals (go_split_ands; go_wp2_with fail; go_ret; exact ⟨rfl, by assumption⟩)
set_option maxHeartbeats 8000000 in
theorem wf_high (a : Option Addr) (r c i : Nat) (R : List StR) (w : World) (hR : CS w a R) (hr : R.length = r) (hi : i < R.length) (hbig : R.length ≤ maxLen) (hok : R[i].ok) (h : validB R[i].1 = true) (h2 : 2 ≤ nv R[i].1) :
    Calls Tryd.prog 36 #[.slice a r c, .int .i64 (i : Int)] w (WFP w (if R[i].2.2.2.2 = [] then decide (R[i].2.1.size = 0) else asc i (-1) R[i].2.2.2.2 && bsB R[i].1 R[i].2.1)) := by
  unfold WFP
  rw [hr] at hi
  have hi2 : i ≤ maxLen := by omega
  unfold maxLen at hi2
  obtain ⟨b, off, rfl, d0, d1, d2, hF⟩ := hR i (by omega)
  generalize R[i] = x at d0 d1 d2 hF h h2 hok ⊢
  obtain ⟨P, A, fa, fc, F⟩ := x
  simp only at d0 d1 d2 hF h h2 ⊢
  have hS := StB.new (P := .string P) (A := .string A) (v := .slice fa F.length fc) w
  have hb := (Below.refl _ w).alloc (Nat.le_refl _) (.cells #[.string P, .string A, .slice fa F.length fc] 44)
  have HF := Lib.hid hF
  have HP := Lib.hid (isN_of h)
  have hFb : F.length ≤ maxLen := hok.2.2.1
  have HW := Lib.hid hok.2.2.2
  obtain ⟨n, hn⟩ : ∃ n, F.length = n := ⟨_, rfl⟩
  rw [hn] at d2 hS hb hFb
  have HV := Lib.hid (validW h)
  have HC1 : ∃ z : Int, (z = 0 ∨ z = 1) ∧ ncmp (nv P) 2 = z := by
    rcases ncmp3 (nv P) 2 with ⟨h8, u2⟩ | ⟨h8, u2⟩ | ⟨h8, u2⟩
    · omega
    · exact ⟨0, .inl rfl, u2⟩
    · exact ⟨1, .inr rfl, u2⟩
  obtain ⟨z, hz, HC1⟩ := HC1
  have HC := Lib.hid (cmpW (isN_of h) isC2 HC1)
  have HN := Lib.hid hn
  unfold maxLen at hFb
  obtain ⟨V, hVV⟩ : ∃ V, (if F = [] then decide (A.size = 0) else asc i (-1) F && bsB P A) = V := ⟨_, rfl⟩
  rw [hVV]
  have HVV := Lib.hid hVV
  clear h h2 hR hF HC1 hok hn hVV
  go_enter Tryd.func36, Tryd.ntmps36
  go_wp2_with fail
  generalize World.alloc _ _ = w0 at hS hb ⊢
  have c0 := hS.c0
  have c1 := hS.c1
  go_cut [22] from 23 (fun v22 wc => v22 = .bool false ∧ StB wc w.heap.size (.string P) (.string A) (.slice fa n fc) ∧ Below w.heap.size w wc)
  case first =>
    rcases hz with rfl | rfl
    all_goals
      go_region_held3 (fun w' => w'.cell? ⟨w.heap.size, 0, none⟩ = some (.string P) ∧ w'.cell? ⟨w.heap.size, 1, none⟩ = some (.string A) ∧ StB w' w.heap.size (.string P) (.string A) (.slice fa n fc) ∧ Below w.heap.size w w')
        (first | exact ⟨c0, c1, hS, hb.drew⟩ | assumption | (refine keepC ?_ bn; assumption))
        (first
          | (go_at_call 26; (with_reducible refine (HV.out _).mono ?_); rintro e wn ⟨rfl, bn⟩)
          | (go_at_call 46; (with_reducible refine (cOf2 _).mono ?_); rintro e wn ⟨rfl, bn⟩)
          | (go_at_call 47; (with_reducible refine (HC.out _).mono ?_); rintro e wn ⟨rfl, bn⟩))
    all_goals (go_split_ands; go_wp2_with fail; go_meet; exact ⟨rfl, by assumption, by assumption⟩)
  case rest =>
    clear hS hb c0 c1
    obtain ⟨rfl, hS, hb⟩ := hcut
    have c0 := hS.c0
    have c1 := hS.c1
    have c2 := hS.c2
    by_cases hF0 : F = []
    · have hn0 : n = 0 := by rw [← HN.out, hF0]; rfl
      subst hn0
      have hVV := HVV.out
      rw [if_pos hF0] at hVV
      clear hF0 HVV HF HW HV HC
      by_cases hA : A.size = 0
      · obtain rfl : A = ⟨#[]⟩ := by cases A with | mk d => simp [ByteArray.size] at hA; simp [hA]
        obtain rfl : V = true := hVV.symm
        go_wp2_with fail
        go_ret
        exact ⟨rfl, hb⟩
      · obtain rfl : V = false := by rw [← hVV]; exact decide_eq_false hA
        obtain ⟨n1, n2⟩ := tl_neC hA
        go_wp2_with fail
        go_ret
        exact ⟨rfl, hb⟩
    · have hn1 : ¬ ((n : Int) = 0) := by
        have : n ≠ 0 := fun e => hF0 (List.length_eq_zero_iff.1 (HN.out.trans e))
        omega
      have hn2 : ((n : Int) == 0) = false := by rw [beq_eq_false_iff_ne]; exact hn1
      have hVV := HVV.out
      rw [if_neg hF0] at hVV
      obtain ⟨B1, hB1⟩ : ∃ B1, bsB P A = B1 := ⟨_, rfl⟩
      rw [hB1] at hVV
      have HB1 := Lib.hid hB1
      have H0 : Hid ((asc i (loF F 0) (F.drop 0) && B1) = V) := hVV
      clear HVV hVV hF0 hB1
      go_wp2_with fail
      go_loopw [33] (fun v33 wr => ∃ k : Nat, k ≤ n ∧ v33 = .int .i64 (k : Int) ∧ Hid ((asc i (loF F k) (F.drop k) && B1) = V) ∧ Hid (-1 ≤ loF F k) ∧ wr = wc) (fun v33 _ => n - (intOf v33).toNat)
      case atStart => exact ⟨0, by omega, rfl, H0, by show (-1 : Int) ≤ loF F 0; unfold loF; simp, rfl⟩
      case round =>
        clear H0
        obtain ⟨k, hk, rfl, hV, hlo, rfl⟩ := hrel
        by_cases hlt : k < n
        · have hkF : k < F.length := by rw [HN.out]; exact hlt
          obtain ⟨fb, foff, rfl, hcell⟩ := (HF.out.below hb (Nat.le_refl _)) k hkF
          have hA := asc_at (i := i) (lo := loF F k) hkF
          have hls := loF_succ hkF
          have hw := hV.out
          rw [hA] at hw
          have hlo1 := hlo.out
          have hpos : 0 < k → ∃ g, wr.cell? ⟨fb, foff + (k - 1), none⟩ = some (.int .i64 g) ∧ loF F k = g := by
            intro h0
            obtain ⟨fb2, foff2, e2, hcell2⟩ := (HF.out.below hb (Nat.le_refl _)) (k - 1) (by omega)
            cases e2
            exact ⟨_, hcell2, loF_pos (by omega) h0⟩
          have hk00 : k = 0 → loF F k = -1 := fun e => by subst e; rfl
          generalize F[k] = f at hcell hA hls hw
          generalize loF F k = lo at hw hlo1 hpos hk00
          have hfr : ∀ g : Int, decide ((0 : Int) ≤ g) = !(decide (g < 0)) := fun g => by by_cases h : g < 0 <;> simp [h] <;> omega
          clear hA hkF hV hlo hfr
          by_cases t1 : f < 0
          · have hVf : V = false := by
              rw [← hw, decide_eq_false (show ¬ lo < f by omega)]; rfl
            subst hVf
            have e1 : decide (f < 0) = true := decide_eq_true t1
            clear hw hpos hls
            go_wp2_with fail
            go_ret
            exact ⟨rfl, hb⟩
          · have e1 : decide (f < 0) = false := decide_eq_false t1
            by_cases t2 : (i : Int) ≤ f
            · have hVf : V = false := by
                rw [← hw, decide_eq_false (show ¬ f < (i : Int) by omega)]; simp
              subst hVf
              have e2 : decide ((i : Int) ≤ f) = true := decide_eq_true t2
              clear hw hpos hls
              go_wp2_with fail
              go_ret
              exact ⟨rfl, hb⟩
            · have e2 : decide ((i : Int) ≤ f) = false := decide_eq_false t2
              rw [decide_eq_true (show f < (i : Int) by omega), Bool.true_and] at hw
              by_cases hk0 : 0 < k
              · obtain ⟨g, hg, rfl⟩ := hpos hk0
                have e3 : decide ((0 : Int) < (k : Int)) = true := decide_eq_true (by omega)
                have e3' : (0 : Int) < (k : Int) := by omega
                have o1 : IntKind.i64.wrap ((k : Int) - 1) = ((k - 1 : Nat) : Int) := by rw [wraps_i64 _ (by omega) (by omega)]; omega
                obtain ⟨j, hj⟩ : ∃ j, k - 1 = j := ⟨_, rfl⟩
                rw [hj] at o1 hg
                have hjn : j < n := by omega
                clear hj hpos
                by_cases t3 : f ≤ lo
                · have hVf : V = false := by
                    rw [← hw, decide_eq_false (show ¬ lo < f by omega)]; rfl
                  subst hVf
                  have e4 : decide (f ≤ lo) = true := decide_eq_true t3
                  clear hw hls
                  go_wp2_with fail
                  go_ret
                  exact ⟨rfl, hb⟩
                · have e4 : decide (f ≤ lo) = false := decide_eq_false t3
                  rw [decide_eq_true (show lo < f by omega), Bool.true_and, ← hls] at hw
                  have HW2 := Lib.hid hw
                  have HL2 : Hid (-1 ≤ loF F (k + 1)) := by show (-1 : Int) ≤ _; rw [hls]; omega
                  clear hw hls
                  go_wp2_with fail
                  exact ⟨⟨k + 1, by omega, by go_num, HW2, HL2, by trivial⟩, by simp [intOf]; omega⟩
              · have e3 : decide ((0 : Int) < (k : Int)) = false := decide_eq_false (by omega)
                have e3' : ¬ (0 : Int) < (k : Int) := by omega
                have hlof : lo < f := by have := hk00 (by omega); omega
                rw [decide_eq_true hlof, Bool.true_and, ← hls] at hw
                have HW2 := Lib.hid hw
                have HL2 : Hid (-1 ≤ loF F (k + 1)) := by show (-1 : Int) ≤ _; rw [hls]; omega
                clear hw hls
                go_wp2_with fail
                exact ⟨⟨k + 1, by omega, by go_num, HW2, HL2, by trivial⟩, by simp [intOf]; omega⟩
        · obtain rfl : k = n := by omega
          have hBV : B1 = V := by
            have := hV.out
            rw [List.drop_of_length_le (by rw [HN.out]; omega)] at this
            exact this
          subst hBV
          clear hV hlo HN HW HF
          have hB1' := HB1.out
          unfold bsB at hB1'
          clear HB1
          cases hvA : validB A
          · rw [hvA, Bool.false_and] at hB1'
            subst hB1'
            have HVA := Lib.hid (validQ hvA)
            clear hvA
            go_wp2_with fail
            go_quiet ((go_at_call 26; exact Calls.quiet_of_same (HVA.out _)))
            have hq : Below w.heap.size w (wr.drewN nq) := hb.trans (Below.drewN _ _ _)
            generalize World.drewN _ _ = w2 at hq ⊢
            go_wp2_with fail
            go_ret
            exact ⟨rfl, hq⟩
          · rw [hvA, Bool.true_and] at hB1'
            have HVA2 := Lib.hid (validW hvA)
            have hA := isN_of hvA
            rcases ncmp3 (nv A) 2 with ⟨h8, u2⟩ | h8
            · rw [decide_eq_false (show ¬ 2 ≤ nv A by omega), Bool.false_and] at hB1'
              subst hB1'
              have HC2 := Lib.hid (cmpW hA isC2 u2)
              clear hvA hA h8 u2
              go_wp2_with fail
      -- {{R12
              refine wp_region_held_drew (S := (fun w' => w'.cell? ⟨w.heap.size, 0, none⟩ = some (.string P) ∧ w'.cell? ⟨w.heap.size, 1, none⟩ = some (.string A) ∧ StB w' w.heap.size (.string P) (.string A) (.slice fa k fc) ∧ Below w.heap.size w w')) (by kernel_rfl) ⟨c0, c1, hS, hb.drew⟩ (fun hS0 => ?_)
              clear hS
              have hS := hS0
              clear hS0
              refine wpAnyH_take (i := 0) (oi := { dst := some 60, op := _, type := _, pos := _, after := _, guard := _ }) (v := .pointer (some (⟨w.heap.size, 1, none⟩ : Addr))) rfl (by kernel_rfl) (by kernel_rfl) (by kernel_rfl) (fun _ _ _ h => h) (Or.inl ⟨by rfl, fun w' hSw => (by (try dsimp only at hSw); go_simp)⟩) (by assumption) ?_
              try simp only [Act.put, List.setIfInBounds_toArray, List.set_cons_zero, List.set_cons_succ]
              refine wpAnyH_take (i := 1) (oi := { dst := some 61, op := _, type := _, pos := _, after := _, guard := _ }) (v := .string A) rfl (by kernel_rfl) (by kernel_rfl) (by kernel_rfl) (fun _ _ _ h => h) (Or.inl ⟨by rfl, fun w' hSw => (by (try dsimp only at hSw); obtain ⟨f0, f1, _, _⟩ := hSw; go_simp)⟩) (by assumption) ?_
              try simp only [Act.put, List.setIfInBounds_toArray, List.set_cons_zero, List.set_cons_succ]
              refine wpAnyH_ready (rs := [2]) (by kernel_rfl) (by simp) ?_
              refine AllReadyH.cons rfl (fun K hK => ?_) AllReadyH.nil
              rw [if_pos (by rfl)]
              go_simp
              go_at_call 26
              refine (HVA2.out _).mono ?_; rintro e wn ⟨rfl, bn⟩
              try go_simp
              refine hK.out _ _ (keepC hS bn) (fun hT => ?_)
              clear bn hK hS
              have hS := hT
              clear hT
              try simp only [Act.put, List.setIfInBounds_toArray, List.set_cons_zero, List.set_cons_succ]
              refine wpAnyH_take (i := 3) (oi := { dst := some 63, op := _, type := _, pos := _, after := _, guard := _ }) (v := .bool true) rfl (by kernel_rfl) (by kernel_rfl) (by kernel_rfl) (fun _ _ _ h => h) (Or.inl ⟨by rfl, fun w' hSw => (by (try dsimp only at hSw); go_simp)⟩) (by assumption) ?_
              try simp only [Act.put, List.setIfInBounds_toArray, List.set_cons_zero, List.set_cons_succ]
              refine wpAnyH_take (i := 4) (oi := { dst := some 64, op := _, type := _, pos := _, after := _, guard := _ }) (v := .pointer (some (⟨w.heap.size, 1, none⟩ : Addr))) rfl (by kernel_rfl) (by kernel_rfl) (by kernel_rfl) (fun _ _ _ h => h) (Or.inl ⟨by rfl, fun w' hSw => (by (try dsimp only at hSw); go_simp)⟩) (by assumption) ?_
              try simp only [Act.put, List.setIfInBounds_toArray, List.set_cons_zero, List.set_cons_succ]
              refine wpAnyH_take (i := 5) (oi := { dst := some 65, op := _, type := _, pos := _, after := _, guard := _ }) (v := .string A) rfl (by kernel_rfl) (by kernel_rfl) (by kernel_rfl) (fun _ _ _ h => h) (Or.inl ⟨by rfl, fun w' hSw => (by (try dsimp only at hSw); obtain ⟨f0, f1, _, _⟩ := hSw; go_simp)⟩) (by assumption) ?_
              try simp only [Act.put, List.setIfInBounds_toArray, List.set_cons_zero, List.set_cons_succ]
              refine wpAnyH_ready (rs := [6]) (by kernel_rfl) (by simp) ?_
              refine AllReadyH.cons rfl (fun K hK => ?_) AllReadyH.nil
              rw [if_pos (by rfl)]
              go_simp
              go_at_call 46
              refine (cOf2 _).mono ?_; rintro e wn ⟨rfl, bn⟩
              try go_simp
              refine hK.out _ _ (keepC hS bn) (fun hT => ?_)
              clear bn hK hS
              have hS := hT
              clear hT
              try simp only [Act.put, List.setIfInBounds_toArray, List.set_cons_zero, List.set_cons_succ]
              refine wpAnyH_ready (rs := [7]) (by kernel_rfl) (by simp) ?_
              refine AllReadyH.cons rfl (fun K hK => ?_) AllReadyH.nil
              rw [if_pos (by rfl)]
              go_simp
              go_at_call 47
              refine (HC2.out _).mono ?_; rintro e wn ⟨rfl, bn⟩
              try go_simp
              refine hK.out _ _ (keepC hS bn) (fun hT => ?_)
              clear bn hK hS
              have hS := hT
              clear hT
              try simp only [Act.put, List.setIfInBounds_toArray, List.set_cons_zero, List.set_cons_succ]
              refine wpAnyH_take (i := 8) (oi := { dst := some 68, op := _, type := _, pos := _, after := _, guard := _ }) (v := .bool false) rfl (by kernel_rfl) (by kernel_rfl) (by kernel_rfl) (fun _ _ _ h => h) (Or.inl ⟨by rfl, fun w' hSw => (by (try dsimp only at hSw); go_simp)⟩) (by assumption) ?_
              try simp only [Act.put, List.setIfInBounds_toArray, List.set_cons_zero, List.set_cons_succ]
              refine wpAnyH_take (i := 9) (oi := { dst := some 69, op := _, type := _, pos := _, after := _, guard := _ }) (v := .bool false) rfl (by kernel_rfl) (by kernel_rfl) (by kernel_rfl) (fun _ _ _ h => h) (Or.inl ⟨by rfl, fun w' hSw => (by (try dsimp only at hSw); go_simp)⟩) (by assumption) ?_
              try simp only [Act.put, List.setIfInBounds_toArray, List.set_cons_zero, List.set_cons_succ]
              refine wpAnyH_take (i := 10) (oi := { dst := some 70, op := _, type := _, pos := _, after := _, guard := _ }) (v := .bool false) rfl (by kernel_rfl) (by kernel_rfl) (by kernel_rfl) (fun _ _ _ h => h) (Or.inl ⟨by rfl, fun w' hSw => (by (try dsimp only at hSw); go_simp)⟩) (by assumption) ?_
              try simp only [Act.put, List.setIfInBounds_toArray, List.set_cons_zero, List.set_cons_succ]
              refine wpAnyH_take (i := 11) (oi := { dst := some 71, op := _, type := _, pos := _, after := _, guard := _ }) (v := undef) rfl (by kernel_rfl) (by kernel_rfl) (by kernel_rfl) (fun _ _ _ h => h) (Or.inr ⟨by kernel_rfl, rfl⟩) (by assumption) ?_
              try simp only [Act.put, List.setIfInBounds_toArray, List.set_cons_zero, List.set_cons_succ]
              refine wpAnyH_take (i := 12) (oi := { dst := some 72, op := _, type := _, pos := _, after := _, guard := _ }) (v := undef) rfl (by kernel_rfl) (by kernel_rfl) (by kernel_rfl) (fun _ _ _ h => h) (Or.inr ⟨by kernel_rfl, rfl⟩) (by assumption) ?_
              try simp only [Act.put, List.setIfInBounds_toArray, List.set_cons_zero, List.set_cons_succ]
              refine wpAnyH_take (i := 13) (oi := { dst := some 73, op := _, type := _, pos := _, after := _, guard := _ }) (v := undef) rfl (by kernel_rfl) (by kernel_rfl) (by kernel_rfl) (fun _ _ _ h => h) (Or.inr ⟨by kernel_rfl, rfl⟩) (by assumption) ?_
              try simp only [Act.put, List.setIfInBounds_toArray, List.set_cons_zero, List.set_cons_succ]
              refine wpAnyH_take (i := 14) (oi := { dst := some 74, op := _, type := _, pos := _, after := _, guard := _ }) (v := undef) rfl (by kernel_rfl) (by kernel_rfl) (by kernel_rfl) (fun _ _ _ h => h) (Or.inr ⟨by kernel_rfl, rfl⟩) (by assumption) ?_
              try simp only [Act.put, List.setIfInBounds_toArray, List.set_cons_zero, List.set_cons_succ]
              refine wpAnyH_take (i := 15) (oi := { dst := some 75, op := _, type := _, pos := _, after := _, guard := _ }) (v := undef) rfl (by kernel_rfl) (by kernel_rfl) (by kernel_rfl) (fun _ _ _ h => h) (Or.inr ⟨by kernel_rfl, rfl⟩) (by assumption) ?_
              try simp only [Act.put, List.setIfInBounds_toArray, List.set_cons_zero, List.set_cons_succ]
              refine wpAnyH_take (i := 16) (oi := { dst := some 76, op := _, type := _, pos := _, after := _, guard := _ }) (v := undef) rfl (by kernel_rfl) (by kernel_rfl) (by kernel_rfl) (fun _ _ _ h => h) (Or.inr ⟨by kernel_rfl, rfl⟩) (by assumption) ?_
              try simp only [Act.put, List.setIfInBounds_toArray, List.set_cons_zero, List.set_cons_succ]
              refine wpAnyH_take (i := 17) (oi := { dst := some 77, op := _, type := _, pos := _, after := _, guard := _ }) (v := .bool false) rfl (by kernel_rfl) (by kernel_rfl) (by kernel_rfl) (fun _ _ _ h => h) (Or.inl ⟨by rfl, fun w' hSw => (by (try dsimp only at hSw); go_simp)⟩) (by assumption) ?_
              try simp only [Act.put, List.setIfInBounds_toArray, List.set_cons_zero, List.set_cons_succ]
              refine wpAnyH_take (i := 18) (oi := { dst := some 4, op := _, type := _, pos := _, after := _, guard := _ }) (v := .bool false) rfl (by kernel_rfl) (by kernel_rfl) (by kernel_rfl) (fun _ _ _ h => h) (Or.inl ⟨by rfl, fun w' hSw => (by (try dsimp only at hSw); go_simp)⟩) (by assumption) ?_
              try simp only [Act.put, List.setIfInBounds_toArray, List.set_cons_zero, List.set_cons_succ]
              refine wpAnyH_done (by kernel_rfl) ?_ _
      -- }}R12
              have hq := hS.2.2.2
              clear hS
              go_wp2_with fail
              go_ret
              exact ⟨rfl, hq⟩
            · have HZ : ∃ z : Int, (z = 0 ∨ z = 1) ∧ ncmp (nv A) 2 = z ∧ 2 ≤ nv A := by
                rcases h8 with ⟨h8, u2⟩ | ⟨h8, u2⟩
                · exact ⟨0, .inl rfl, u2, by omega⟩
                · exact ⟨1, .inr rfl, u2, by omega⟩
              obtain ⟨z2, hz2, u2, h2A⟩ := HZ
              rw [decide_eq_true h2A, Bool.true_and] at hB1'
              have HC2 := Lib.hid (cmpW hA isC2 u2)
              have HZ3 : ∃ z : Int, ((z = -1 ∧ B1 = true) ∨ (z = 0 ∧ B1 = false) ∨ (z = 1 ∧ B1 = false)) ∧ ncmp (nv A) (nv P) = z := by
                rcases ncmp3 (nv A) (nv P) with ⟨h9, u3⟩ | ⟨h9, u3⟩ | ⟨h9, u3⟩
                · exact ⟨-1, .inl ⟨rfl, by rw [← hB1']; exact decide_eq_true h9⟩, u3⟩
                · exact ⟨0, .inr (.inl ⟨rfl, by rw [← hB1']; exact decide_eq_false (by omega)⟩), u3⟩
                · exact ⟨1, .inr (.inr ⟨rfl, by rw [← hB1']; exact decide_eq_false (by omega)⟩), u3⟩
              obtain ⟨z3, hz3, u3⟩ := HZ3
              have HC3 := Lib.hid (cmpW hA HP.out u3)
              clear hvA hA h8 u2 u3 h2A hB1'
              go_wp2_with fail
              rcases hz2 with rfl | rfl
              all_goals
                rcases hz3 with ⟨rfl, rfl⟩ | ⟨rfl, rfl⟩ | ⟨rfl, rfl⟩
                all_goals
                  go_region_held3 (fun w' => w'.cell? ⟨w.heap.size, 0, none⟩ = some (.string P) ∧ w'.cell? ⟨w.heap.size, 1, none⟩ = some (.string A) ∧ StB w' w.heap.size (.string P) (.string A) (.slice fa k fc) ∧ Below w.heap.size w w')
                    (first | exact ⟨c0, c1, hS, hb.drew⟩ | assumption | (refine keepC ?_ bn; assumption))
                    (first
                      | (go_at_call 26; (with_reducible refine (HVA2.out _).mono ?_); rintro e wn ⟨rfl, bn⟩)
                      | (go_at_call 46; (with_reducible refine (cOf2 _).mono ?_); rintro e wn ⟨rfl, bn⟩)
                      | (go_at_call 47; (with_reducible refine (HC2.out _).mono ?_); rintro e wn ⟨rfl, bn⟩)
                      | (go_at_call 47; (with_reducible refine (HC3.out _).mono ?_); rintro e wn ⟨rfl, bn⟩))
                  all_goals (go_split_ands; go_wp2_with fail; go_ret; exact ⟨rfl, by assumption⟩)
end Go.Proofs.YtjminjliomffaaaDoor

/- certificate.correct, Check, Prime. -/
namespace Go.Proofs.YtjminjliomffaaaDoor
open Go.RowKit Num
set_option maxRecDepth 20000
set_option linter.unusedVariables false
theorem one_cellC {W : World} {g : Nat} {v : Value} (h : W.cell? ⟨g, 0, none⟩ = some v) : ∀ j u, [v][j]? = some u → W.cell? ((⟨g, 0, none⟩ : Addr).add j) = some u := by
  intro j u hj
  cases j with
  | zero =>
    have e : v = u := by simpa using hj
    subst e
    rw [Go.WideShapes.add_plain]
    exact h
  | succ j => simp at hj
theorem ownbC {w w' : World} {B e size n : Nat} {v : Value} {xs : List Value} (h : w.ownsRow B e size v n xs) (hb : Below w.heap.size w w') : w'.ownsRow B e size v n xs := by
  rcases h with ⟨h0, h | ⟨g, cap, cur, h1, h2, h3, h4⟩⟩
  · exact ⟨h0, .inl h⟩
  · exact ⟨h0, .inr ⟨g, cap, cur, h1, h2, (hb.block g (Array.getElem?_eq_some_iff.1 h3).1).trans h3, h4⟩⟩
theorem cellB_keep {w w' : World} {p : Addr} {v : Value} (h : w.cell? p = some v) (hb : Below w.heap.size w w') : w'.cell? p = some v := cells_keep hb (Nat.le_refl _) _ _ h
theorem prm_at {R : List StR} {f : Int} {j : Nat} (hj : f = (j : Int)) (h : j < R.length) : prm (R.map stp) f = nv R[j].1 := by
  subst hj
  unfold prm
  simp [List.getD_eq_getElem?_getD, h, stp]
theorem partF_le {Q : List Nat} {m : Nat} (hQ : ∀ q ∈ Q, 0 < q) (hm : 1 ≤ m) : partF Q m 1 ≤ m := by
  obtain ⟨qs, _, h2, h3⟩ := partF_spec Q m 1 hQ
  rw [h2, Nat.one_mul]
  exact Nat.le_of_dvd (by omega) h3
theorem info_natC : (Tryd.prog.info? 27).map (fun i => (i.zero, i.size, i.bytes)) = some (some (.string ⟨#[]⟩), 1, 16) := by kernel_rfl
set_option maxHeartbeats 4000000 in
theorem ceCorrect0_any (a : Option Addr) (r c : Nat) (R : List StR) (P A : ByteArray) (fa : Option Addr) (fc : Nat) (w : World) (hT : Tab w) (hP : IsN P (nv P)) :
    Calls Tryd.prog 37 #[.slice a r c, .agg #[.string P, .string A, .slice fa 0 fc]] w fun e w' => e = .returned (.bool (crB (R.map stp) (P, A, []))) ∧ Below w.heap.size w w' := by
  have HT := Lib.hid (fun w h => ceTiny_any P (nv P) w hP h)
  have hS := StB.new (P := .string P) (A := .string A) (v := .slice fa 0 fc) w
  have hb := (Below.refl _ w).alloc (Nat.le_refl _) (.cells #[.string P, .string A, .slice fa 0 fc] 44)
  have e1 : crB (R.map stp) (P, A, []) = (decide (nv P < 65536) && isB (nv P)) := rfl
  rw [e1]
  have hT2 := hT.below hb
  clear hP hT
  go_enter Tryd.func37, Tryd.ntmps37
  go_wp2_with fail
  generalize World.alloc _ _ = w0 at hS hb hT2 ⊢
  have c0 := hS.c0
  have c2 := hS.c2
  go_wp2_with fail
  refine (HT.out _ hT2).mono ?_; rintro e w1 ⟨rfl, b1⟩
  have b2 := hb.trans (b1.mono hb.size)
  go_wp2_with fail
  go_ret
  exact ⟨rfl, b2⟩
set_option maxHeartbeats 8000000 in
theorem ceCorrect1_any (a : Option Addr) (r c n : Nat) (R : List StR) (P A : ByteArray) (fa : Option Addr) (fc : Nat) (F : List Int) (w : World) (hR : CS w a R) (hr : R.length = r) (hF : FS w fa F) (hn : F.length = n) (h0 : 0 < n) (hL : n ≤ 100000)
    (hok : ∀ x ∈ R, IsN x.1 (nv x.1) ∧ 2 ≤ nv x.1) (hP : IsN P (nv P)) (h2 : 2 ≤ nv P) (hA : IsN A (nv A)) (hfs : ∀ f ∈ F, 0 ≤ f ∧ f.toNat < R.length) :
    Calls Tryd.prog 37 #[.slice a r c, .agg #[.string P, .string A, .slice fa n fc]] w fun e w' => e = .returned (.bool (crB (R.map stp) (P, A, F))) ∧ Below w.heap.size w w' := by
  obtain ⟨i0, hi, hz0, hz1, hz2⟩ := info_parts info_natC
  have hS := StB.new (P := .string P) (A := .string A) (v := .slice fa n fc) w
  have hb := (Below.refl _ w).alloc (Nat.le_refl _) (.cells #[.string P, .string A, .slice fa n fc] 44)
  have hne : F ≠ [] := fun e => by rw [e] at hn; simp at hn; omega
  obtain ⟨m, hm⟩ : ∃ m, nv P = m := ⟨_, rfl⟩
  rw [hm] at hP h2
  obtain ⟨Q, hQe⟩ : ∃ Q, F.map (prm (R.map stp)) = Q := ⟨_, rfl⟩
  have hQl : Q.length = n := by rw [← hQe, List.length_map, hn]
  have e1 : crB (R.map stp) (P, A, F) = corB m (nv A) Q := by
    unfold crB
    rw [if_neg hne, hm, hQe]
  rw [e1]
  have hat : ∀ k (hk : k < F.length) (hq : k < Q.length), ∃ j : Nat, F[k] = (j : Int) ∧ ∃ hj : j < R.length, Q[k] = nv R[j].1 := by
    intro k hk hq
    obtain ⟨f1, f2⟩ := hfs F[k] (List.getElem_mem hk)
    refine ⟨F[k].toNat, by omega, f2, ?_⟩
    rw [← prm_at (f := F[k]) (by omega) f2]
    subst hQe
    simp
  have hQ : ∀ q ∈ Q, 2 ≤ q ∧ blen q ≤ 128 := by
    intro q hq
    obtain ⟨k, hk, rfl⟩ := List.mem_iff_getElem.1 hq
    obtain ⟨j, _, hj, e⟩ := hat k (by omega) hk
    rw [e]
    obtain ⟨h1, h3⟩ := hok _ (List.getElem_mem hj)
    exact ⟨h3, h1.le⟩
  obtain ⟨V, hV⟩ : ∃ V, corB m (nv A) Q = V := ⟨_, rfl⟩
  rw [hV]
  have hm1 : IsN (enc (m - 1)) (m - 1) := IsN.mk' (Nat.le_trans (blen_mono (by omega)) hP.le)
  have HLs := Lib.hid (fun w => ceLess_any P m w hP (by omega))
  have HAT := Lib.hid hat
  have HQ := Lib.hid hQ
  have HOK := Lib.hid hok
  have HM := Lib.hid (And.intro hP h2)
  have HA := Lib.hid hA
  have HM1 := Lib.hid hm1
  have HV := Lib.hid hV
  have HN := Lib.hid (And.intro hn hQl)
  have HR := Lib.hid (hR.below hb (Nat.le_refl _))
  have HF := Lib.hid (hF.below hb (Nat.le_refl _))
  clear hne hQe hQl e1 hat hQ hok hP hA hm1 hV hn hR hF hfs h2 hm
  go_enter Tryd.func37, Tryd.ntmps37
  go_wp2_with fail
  generalize World.alloc _ _ = w0 at hS hb HR HF ⊢
  have c0 := hS.c0
  have c2 := hS.c2
  have n1 : ¬ ((n : Int) = 0) := by omega
  have n2 : ((n : Int) == 0) = false := by rw [beq_eq_false_iff_ne]; exact n1
  go_wp2_with fail
  refine (HLs.out _).mono ?_; rintro e w1 ⟨rfl, b1⟩
  have hS1 := hS.below b1 hS.lt
  have hB1 := hb.trans (b1.mono hb.size)
  have HR1 := Lib.hid (HR.out.below b1 (Nat.le_refl _))
  have HF1 := Lib.hid (HF.out.below b1 (Nat.le_refl _))
  clear c0 c2 HR HF
  have c2 := hS1.c2
  go_wp2_with fail
  go_loopw [6, 24] (fun v6 i wr => ∃ k : Nat, k ≤ n ∧ i = .int .i64 k ∧ wr.ownsRow w1.heap.size 27 1 v6 k ((Q.take k).map fun q => Value.string (enc q)) ∧ Hid ((Q.take k).all (fun q => (m - 1) % q == 0) = true) ∧ Below w1.heap.size w1 wr) (fun _ i _ => n - (intOf i).toNat)
  case atStart => exact ⟨0, by omega, rfl, World.ownsRow_nil _ _ _ _, Lib.hid (by simp), Below.refl _ _⟩
  case round =>
    obtain ⟨k, hk, rfl, hO, hD, hB⟩ := hrel
    by_cases hlt : k < n
    · have hkF : k < F.length := by rw [HN.out.1]; exact hlt
      have hkQ : k < Q.length := by rw [HN.out.2]; exact hlt
      obtain ⟨fb, foff, rfl, hcell⟩ := (HF1.out.below hB (Nat.le_refl _)) k hkF
      obtain ⟨j, hFj, hj, hQj⟩ := HAT.out k hkF hkQ
      obtain ⟨b, off, rfl, d0, _, _, _⟩ := (HR1.out.below hB (Nat.le_refl _)) j hj
      obtain ⟨p1, p2⟩ := HOK.out _ (List.getElem_mem hj)
      rw [← hQj] at p1 p2
      rw [p1.eq] at d0
      rw [hFj] at hcell
      have hjr : j < r := by omega
      have HT : Hid ((Q.take (k + 1)) = Q.take k ++ [Q[k]]) := List.take_succ_eq_append_getElem hkQ
      have HDV := fun w => ceDivide_any (enc (m - 1)) (enc Q[k]) (m - 1) Q[k] w HM1.out (IsN.mk' p1.le) (by omega)
      have hbad : ((m - 1) % Q[k] == 0) = false → V = false := fun h => by
        rw [← HV.out]
        unfold corB
        rw [show (Q.all fun q => (m - 1) % q == 0) = false by rw [List.all_eq_false]; exact ⟨Q[k], List.getElem_mem hkQ, by rw [h]; simp⟩]
        rfl
      have hgood : ((m - 1) % Q[k] == 0) = true → (Q.take (k + 1)).all (fun q => (m - 1) % q == 0) = true := fun h => by
        rw [HT.out, List.all_append, hD.out]; simp [h]
      generalize Q[k] = q at d0 HT HDV hbad hgood
      obtain ⟨D, hDD⟩ : ∃ D, ((m - 1) % q == 0) = D := ⟨_, rfl⟩
      simp only [hDD] at HDV hbad hgood
      have HDV := Lib.hid HDV
      have HGB := Lib.hid (And.intro hbad hgood)
      clear p1 p2 hbad hgood hDD
      cases D
      · obtain rfl : V = false := HGB.out.1 rfl
        go_wp2_with fail
        refine (HDV.out _).mono ?_; rintro e w2 ⟨rfl, b2⟩
        have hBx := hB1.trans ((hB.trans (b2.mono hB.size)).mono hB1.size)
        go_wp2_with fail
        go_ret
        exact ⟨rfl, hBx⟩
      · have HG := Lib.hid (HGB.out.2 rfl)
        clear HGB
        go_wp2_with fail
        refine (HDV.out _).mono ?_; rintro e w2 ⟨rfl, h2⟩
        have d02 := cellB_keep d0 h2
        go_wp2_with (at_builtin; refine wpList_append_own _ rfl (.tmp 40) (.tmp 46) 55 rfl w1.heap.size 27 i0 (.string ⟨#[]⟩) 1 16 Tryd.underlying55 hi hz0 hz1 hz2 rfl (by decide) _ k ((Q.take k).map fun p => Value.string (enc p)) rfl ((ownbC hO h2).alloc _) ⟨w2.heap.size, 0, none⟩ 1 1 [.string (enc q)] rfl rfl (one_cellC (new_cell0 _ _ _ _)) (by simp [Value.oneCell']) (by unfold maxLen; omega) (by omega) (by simp; have := hB.size; have := h2.size; omega) ?_)
        intro v' w' hown' hgrow _
        have hR2 := ownbC hO h2
        have hB2 := hB.trans (h2.mono hB.size)
        have hB' := (hB2.alloc hB2.size (.cells #[.string (enc q)] 27)).grown hgrow (by simp; have := hB2.size; omega) (fun k e => (hR2.lt k e).1)
        go_wp2_with fail
        exact ⟨⟨k + 1, by omega, by go_num, by rw [HT.out, List.map_append, List.map_take]; exact hown', HG, hB'⟩, by simp [intOf]; omega⟩
    · obtain rfl : k = n := by omega
      have htk : Q.take k = Q := List.take_of_length_le (by rw [HN.out.2]; omega)
      rw [htk] at hO hD
      have hSL : SL wr u6 (Q.map enc) := by
        refine SL.of_own (B := w1.heap.size) ?_
        rw [List.length_map, List.map_map, HN.out.2]
        exact hO
      obtain ⟨v2, hv2⟩ : ∃ v2, Value.slice fa k fc = v2 := ⟨_, rfl⟩
      have hSr := hS1.below hB hS1.lt
      rw [hv2] at hSr
      have hBr := hB1.trans (hB.mono hB1.size)
      have hm1 := HM1.out
      have hF1 : IsN (enc (partF Q (m - 1) 1)) (partF Q (m - 1) 1) := IsN.mk' (Nat.le_trans (blen_mono (partF_le (fun q hq => by have := (HQ.out q hq).1; omega) (by have := HM.out.2; omega))) hm1.le)
      have HPart := Lib.hid (fun W hv => cePart_any (enc (m - 1)) (m - 1) u6 Q W hm1 (by have := HM.out.2; omega) hv HQ.out (by have := HN.out.2; omega))
      have HEn := (fun W => ceEnough_any (enc (partF Q (m - 1) 1)) P (partF Q (m - 1) 1) m W hF1 HM.out.1)
      have HPr := (fun W hv => ceProves_any P A m (nv A) u6 Q W HM.out.1 HM.out.2 HA.out hv HQ.out (by have := HN.out.2; omega))
      have hV := HV.out
      unfold corB at hV
      rw [hD.out, Bool.true_and] at hV
      obtain ⟨PF, hPF⟩ : ∃ PF, partF Q (m - 1) 1 = PF := ⟨_, rfl⟩
      simp only [hPF] at HPart HEn hV
      obtain ⟨E, hE⟩ : ∃ E, decide (m < PF * PF) = E := ⟨_, rfl⟩
      simp only [hE] at HEn hV
      obtain ⟨X, hX⟩ : ∃ X, provB m (nv A) Q = X := ⟨_, rfl⟩
      simp only [hX] at HPr hV
      have HEn := Lib.hid HEn
      have HPr := Lib.hid HPr
      have c0 := hSr.c0
      have c1 := hSr.c1
      have hB := hBr
      have hS := hSr
      clear hO hD hF1 hm1 hPF hE hX hSr hBr hS1 hB1 HM1 HF1 HR1 c2 htk HLs HAT HQ HOK HM HA HV HN
      cases E
      · obtain rfl : V = false := by simpa using hV.symm
        clear hV HPr
        go_wp2_with fail
-- {{K1
        refine wp_region_held_drew (S := (fun w' => w'.cell? ⟨w.heap.size, 0, none⟩ = some (.string P) ∧ w'.cell? ⟨w.heap.size, 1, none⟩ = some (.string A) ∧ StB w' w.heap.size (.string P) (.string A) v2 ∧ Below w.heap.size w w')) (by kernel_rfl) ⟨c0, c1, hS, hB.drew⟩ (fun hS0 => ?_)
        clear hS
        have hS := hS0
        clear hS0
        have hSL := hSL.below (Below.refl _ wr).drew
        refine wpAnyH_take (i := 0) (oi := { dst := some 49, op := _, type := _, pos := _, after := _, guard := _ }) (v := .string (enc (m - 1))) rfl (by kernel_rfl) (by kernel_rfl) (by kernel_rfl) (fun _ _ _ h => h) (Or.inl ⟨by rfl, fun w' hSw => (by (try dsimp only at hSw); go_simp)⟩) (by assumption) ?_
        try simp only [Act.put, List.setIfInBounds_toArray, List.set_cons_zero, List.set_cons_succ]
        refine wpAnyH_take (i := 1) (oi := { dst := some 50, op := _, type := _, pos := _, after := _, guard := _ }) (v := u6) rfl (by kernel_rfl) (by kernel_rfl) (by kernel_rfl) (fun _ _ _ h => h) (Or.inl ⟨by rfl, fun w' hSw => (by (try dsimp only at hSw); go_simp)⟩) (by assumption) ?_
        try simp only [Act.put, List.setIfInBounds_toArray, List.set_cons_zero, List.set_cons_succ]
        refine wpAnyH_take (i := 3) (oi := { dst := some 52, op := _, type := _, pos := _, after := _, guard := _ }) (v := .pointer (some (⟨w.heap.size, 0, none⟩ : Addr))) rfl (by kernel_rfl) (by kernel_rfl) (by kernel_rfl) (fun _ _ _ h => h) (Or.inl ⟨by rfl, fun w' hSw => (by (try dsimp only at hSw); go_simp)⟩) (by assumption) ?_
        try simp only [Act.put, List.setIfInBounds_toArray, List.set_cons_zero, List.set_cons_succ]
        refine wpAnyH_take (i := 4) (oi := { dst := some 53, op := _, type := _, pos := _, after := _, guard := _ }) (v := .string P) rfl (by kernel_rfl) (by kernel_rfl) (by kernel_rfl) (fun _ _ _ h => h) (Or.inl ⟨by rfl, fun w' hSw => (by (try dsimp only at hSw); obtain ⟨f0, f1, _, _⟩ := hSw; go_simp)⟩) (by assumption) ?_
        try simp only [Act.put, List.setIfInBounds_toArray, List.set_cons_zero, List.set_cons_succ]
        refine wpAnyH_ready (rs := [2]) (by kernel_rfl) (by simp) ?_
        refine AllReadyH.cons rfl (fun K hK => ?_) AllReadyH.nil
        rw [if_pos (by rfl)]
        go_simp
        go_at_call 33
        refine (HPart.out _ hSL).mono ?_; rintro e wn ⟨rfl, bn⟩
        have hSL := hSL.below bn
        try go_simp
        refine hK.out _ _ (keepC hS bn) (fun hT => ?_)
        clear bn hK hS
        have hS := hT
        clear hT
        try simp only [Act.put, List.setIfInBounds_toArray, List.set_cons_zero, List.set_cons_succ]
        refine wpAnyH_ready (rs := [5]) (by kernel_rfl) (by simp) ?_
        refine AllReadyH.cons rfl (fun K hK => ?_) AllReadyH.nil
        rw [if_pos (by rfl)]
        go_simp
        go_at_call 32
        refine (HEn.out _).mono ?_; rintro e wn ⟨rfl, bn⟩
        have hSL := hSL.below bn
        try go_simp
        refine hK.out _ _ (keepC hS bn) (fun hT => ?_)
        clear bn hK hS
        have hS := hT
        clear hT
        try simp only [Act.put, List.setIfInBounds_toArray, List.set_cons_zero, List.set_cons_succ]
        refine wpAnyH_take (i := 6) (oi := { dst := some 55, op := _, type := _, pos := _, after := _, guard := _ }) (v := .bool false) rfl (by kernel_rfl) (by kernel_rfl) (by kernel_rfl) (fun _ _ _ h => h) (Or.inl ⟨by rfl, fun w' hSw => (by (try dsimp only at hSw); go_simp)⟩) (by assumption) ?_
        try simp only [Act.put, List.setIfInBounds_toArray, List.set_cons_zero, List.set_cons_succ]
        refine wpAnyH_take (i := 7) (oi := { dst := some 56, op := _, type := _, pos := _, after := _, guard := _ }) (v := undef) rfl (by kernel_rfl) (by kernel_rfl) (by kernel_rfl) (fun _ _ _ h => h) (Or.inr ⟨by kernel_rfl, rfl⟩) (by assumption) ?_
        try simp only [Act.put, List.setIfInBounds_toArray, List.set_cons_zero, List.set_cons_succ]
        refine wpAnyH_take (i := 8) (oi := { dst := some 57, op := _, type := _, pos := _, after := _, guard := _ }) (v := undef) rfl (by kernel_rfl) (by kernel_rfl) (by kernel_rfl) (fun _ _ _ h => h) (Or.inr ⟨by kernel_rfl, rfl⟩) (by assumption) ?_
        try simp only [Act.put, List.setIfInBounds_toArray, List.set_cons_zero, List.set_cons_succ]
        refine wpAnyH_take (i := 9) (oi := { dst := some 58, op := _, type := _, pos := _, after := _, guard := _ }) (v := undef) rfl (by kernel_rfl) (by kernel_rfl) (by kernel_rfl) (fun _ _ _ h => h) (Or.inr ⟨by kernel_rfl, rfl⟩) (by assumption) ?_
        try simp only [Act.put, List.setIfInBounds_toArray, List.set_cons_zero, List.set_cons_succ]
        refine wpAnyH_take (i := 10) (oi := { dst := some 59, op := _, type := _, pos := _, after := _, guard := _ }) (v := undef) rfl (by kernel_rfl) (by kernel_rfl) (by kernel_rfl) (fun _ _ _ h => h) (Or.inr ⟨by kernel_rfl, rfl⟩) (by assumption) ?_
        try simp only [Act.put, List.setIfInBounds_toArray, List.set_cons_zero, List.set_cons_succ]
        refine wpAnyH_take (i := 11) (oi := { dst := some 60, op := _, type := _, pos := _, after := _, guard := _ }) (v := undef) rfl (by kernel_rfl) (by kernel_rfl) (by kernel_rfl) (fun _ _ _ h => h) (Or.inr ⟨by kernel_rfl, rfl⟩) (by assumption) ?_
        try simp only [Act.put, List.setIfInBounds_toArray, List.set_cons_zero, List.set_cons_succ]
        refine wpAnyH_take (i := 12) (oi := { dst := some 61, op := _, type := _, pos := _, after := _, guard := _ }) (v := undef) rfl (by kernel_rfl) (by kernel_rfl) (by kernel_rfl) (fun _ _ _ h => h) (Or.inr ⟨by kernel_rfl, rfl⟩) (by assumption) ?_
        try simp only [Act.put, List.setIfInBounds_toArray, List.set_cons_zero, List.set_cons_succ]
        refine wpAnyH_take (i := 13) (oi := { dst := some 62, op := _, type := _, pos := _, after := _, guard := _ }) (v := .bool false) rfl (by kernel_rfl) (by kernel_rfl) (by kernel_rfl) (fun _ _ _ h => h) (Or.inl ⟨by rfl, fun w' hSw => (by (try dsimp only at hSw); go_simp)⟩) (by assumption) ?_
        try simp only [Act.put, List.setIfInBounds_toArray, List.set_cons_zero, List.set_cons_succ]
        refine wpAnyH_take (i := 14) (oi := { dst := some 4, op := _, type := _, pos := _, after := _, guard := _ }) (v := .bool false) rfl (by kernel_rfl) (by kernel_rfl) (by kernel_rfl) (fun _ _ _ h => h) (Or.inl ⟨by rfl, fun w' hSw => (by (try dsimp only at hSw); go_simp)⟩) (by assumption) ?_
        try simp only [Act.put, List.setIfInBounds_toArray, List.set_cons_zero, List.set_cons_succ]
        refine wpAnyH_done (by kernel_rfl) ?_ _
-- }}K1
        have hq := hS.2.2.2
        clear hS
        go_wp2_with fail
        go_ret
        exact ⟨rfl, hq⟩
      · obtain rfl : V = X := by simpa using hV.symm
        clear hV
        go_wp2_with fail
-- {{K2
        refine wp_region_held_drew (S := (fun w' => w'.cell? ⟨w.heap.size, 0, none⟩ = some (.string P) ∧ w'.cell? ⟨w.heap.size, 1, none⟩ = some (.string A) ∧ StB w' w.heap.size (.string P) (.string A) v2 ∧ Below w.heap.size w w')) (by kernel_rfl) ⟨c0, c1, hS, hB.drew⟩ (fun hS0 => ?_)
        clear hS
        have hS := hS0
        clear hS0
        have hSL := hSL.below (Below.refl _ wr).drew
        refine wpAnyH_take (i := 0) (oi := { dst := some 49, op := _, type := _, pos := _, after := _, guard := _ }) (v := .string (enc (m - 1))) rfl (by kernel_rfl) (by kernel_rfl) (by kernel_rfl) (fun _ _ _ h => h) (Or.inl ⟨by rfl, fun w' hSw => (by (try dsimp only at hSw); go_simp)⟩) (by assumption) ?_
        try simp only [Act.put, List.setIfInBounds_toArray, List.set_cons_zero, List.set_cons_succ]
        refine wpAnyH_take (i := 1) (oi := { dst := some 50, op := _, type := _, pos := _, after := _, guard := _ }) (v := u6) rfl (by kernel_rfl) (by kernel_rfl) (by kernel_rfl) (fun _ _ _ h => h) (Or.inl ⟨by rfl, fun w' hSw => (by (try dsimp only at hSw); go_simp)⟩) (by assumption) ?_
        try simp only [Act.put, List.setIfInBounds_toArray, List.set_cons_zero, List.set_cons_succ]
        refine wpAnyH_take (i := 3) (oi := { dst := some 52, op := _, type := _, pos := _, after := _, guard := _ }) (v := .pointer (some (⟨w.heap.size, 0, none⟩ : Addr))) rfl (by kernel_rfl) (by kernel_rfl) (by kernel_rfl) (fun _ _ _ h => h) (Or.inl ⟨by rfl, fun w' hSw => (by (try dsimp only at hSw); go_simp)⟩) (by assumption) ?_
        try simp only [Act.put, List.setIfInBounds_toArray, List.set_cons_zero, List.set_cons_succ]
        refine wpAnyH_take (i := 4) (oi := { dst := some 53, op := _, type := _, pos := _, after := _, guard := _ }) (v := .string P) rfl (by kernel_rfl) (by kernel_rfl) (by kernel_rfl) (fun _ _ _ h => h) (Or.inl ⟨by rfl, fun w' hSw => (by (try dsimp only at hSw); obtain ⟨f0, f1, _, _⟩ := hSw; go_simp)⟩) (by assumption) ?_
        try simp only [Act.put, List.setIfInBounds_toArray, List.set_cons_zero, List.set_cons_succ]
        refine wpAnyH_ready (rs := [2]) (by kernel_rfl) (by simp) ?_
        refine AllReadyH.cons rfl (fun K hK => ?_) AllReadyH.nil
        rw [if_pos (by rfl)]
        go_simp
        go_at_call 33
        refine (HPart.out _ hSL).mono ?_; rintro e wn ⟨rfl, bn⟩
        have hSL := hSL.below bn
        try go_simp
        refine hK.out _ _ (keepC hS bn) (fun hT => ?_)
        clear bn hK hS
        have hS := hT
        clear hT
        try simp only [Act.put, List.setIfInBounds_toArray, List.set_cons_zero, List.set_cons_succ]
        refine wpAnyH_ready (rs := [5]) (by kernel_rfl) (by simp) ?_
        refine AllReadyH.cons rfl (fun K hK => ?_) AllReadyH.nil
        rw [if_pos (by rfl)]
        go_simp
        go_at_call 32
        refine (HEn.out _).mono ?_; rintro e wn ⟨rfl, bn⟩
        have hSL := hSL.below bn
        try go_simp
        refine hK.out _ _ (keepC hS bn) (fun hT => ?_)
        clear bn hK hS
        have hS := hT
        clear hT
        try simp only [Act.put, List.setIfInBounds_toArray, List.set_cons_zero, List.set_cons_succ]
        refine wpAnyH_take (i := 6) (oi := { dst := some 55, op := _, type := _, pos := _, after := _, guard := _ }) (v := .bool true) rfl (by kernel_rfl) (by kernel_rfl) (by kernel_rfl) (fun _ _ _ h => h) (Or.inl ⟨by rfl, fun w' hSw => (by (try dsimp only at hSw); go_simp)⟩) (by assumption) ?_
        try simp only [Act.put, List.setIfInBounds_toArray, List.set_cons_zero, List.set_cons_succ]
        refine wpAnyH_take (i := 7) (oi := { dst := some 56, op := _, type := _, pos := _, after := _, guard := _ }) (v := .pointer (some (⟨w.heap.size, 0, none⟩ : Addr))) rfl (by kernel_rfl) (by kernel_rfl) (by kernel_rfl) (fun _ _ _ h => h) (Or.inl ⟨by rfl, fun w' hSw => (by (try dsimp only at hSw); go_simp)⟩) (by assumption) ?_
        try simp only [Act.put, List.setIfInBounds_toArray, List.set_cons_zero, List.set_cons_succ]
        refine wpAnyH_take (i := 8) (oi := { dst := some 57, op := _, type := _, pos := _, after := _, guard := _ }) (v := .string P) rfl (by kernel_rfl) (by kernel_rfl) (by kernel_rfl) (fun _ _ _ h => h) (Or.inl ⟨by rfl, fun w' hSw => (by (try dsimp only at hSw); obtain ⟨f0, f1, _, _⟩ := hSw; go_simp)⟩) (by assumption) ?_
        try simp only [Act.put, List.setIfInBounds_toArray, List.set_cons_zero, List.set_cons_succ]
        refine wpAnyH_take (i := 9) (oi := { dst := some 58, op := _, type := _, pos := _, after := _, guard := _ }) (v := .pointer (some (⟨w.heap.size, 1, none⟩ : Addr))) rfl (by kernel_rfl) (by kernel_rfl) (by kernel_rfl) (fun _ _ _ h => h) (Or.inl ⟨by rfl, fun w' hSw => (by (try dsimp only at hSw); go_simp)⟩) (by assumption) ?_
        try simp only [Act.put, List.setIfInBounds_toArray, List.set_cons_zero, List.set_cons_succ]
        refine wpAnyH_take (i := 10) (oi := { dst := some 59, op := _, type := _, pos := _, after := _, guard := _ }) (v := .string A) rfl (by kernel_rfl) (by kernel_rfl) (by kernel_rfl) (fun _ _ _ h => h) (Or.inl ⟨by rfl, fun w' hSw => (by (try dsimp only at hSw); obtain ⟨f0, f1, _, _⟩ := hSw; go_simp)⟩) (by assumption) ?_
        try simp only [Act.put, List.setIfInBounds_toArray, List.set_cons_zero, List.set_cons_succ]
        refine wpAnyH_take (i := 11) (oi := { dst := some 60, op := _, type := _, pos := _, after := _, guard := _ }) (v := u6) rfl (by kernel_rfl) (by kernel_rfl) (by kernel_rfl) (fun _ _ _ h => h) (Or.inl ⟨by rfl, fun w' hSw => (by (try dsimp only at hSw); go_simp)⟩) (by assumption) ?_
        try simp only [Act.put, List.setIfInBounds_toArray, List.set_cons_zero, List.set_cons_succ]
        refine wpAnyH_ready (rs := [12]) (by kernel_rfl) (by simp) ?_
        refine AllReadyH.cons rfl (fun K hK => ?_) AllReadyH.nil
        rw [if_pos (by rfl)]
        go_simp
        go_at_call 60
        refine (HPr.out _ hSL).mono ?_; rintro e wn ⟨rfl, bn⟩
        try go_simp
        refine hK.out _ _ (keepC hS bn) (fun hT => ?_)
        clear bn hK hS
        have hS := hT
        clear hT
        try simp only [Act.put, List.setIfInBounds_toArray, List.set_cons_zero, List.set_cons_succ]
        refine wpAnyH_take (i := 13) (oi := { dst := some 62, op := _, type := _, pos := _, after := _, guard := _ }) (v := .bool V) rfl (by kernel_rfl) (by kernel_rfl) (by kernel_rfl) (fun _ _ _ h => h) (Or.inl ⟨by rfl, fun w' hSw => (by (try dsimp only at hSw); go_simp)⟩) (by assumption) ?_
        try simp only [Act.put, List.setIfInBounds_toArray, List.set_cons_zero, List.set_cons_succ]
        refine wpAnyH_take (i := 14) (oi := { dst := some 4, op := _, type := _, pos := _, after := _, guard := _ }) (v := .bool V) rfl (by kernel_rfl) (by kernel_rfl) (by kernel_rfl) (fun _ _ _ h => h) (Or.inl ⟨by rfl, fun w' hSw => (by (try dsimp only at hSw); go_simp)⟩) (by assumption) ?_
        try simp only [Act.put, List.setIfInBounds_toArray, List.set_cons_zero, List.set_cons_succ]
        refine wpAnyH_done (by kernel_rfl) ?_ _
-- }}K2
        have hq := hS.2.2.2
        clear hS
        go_wp2_with fail
        go_ret
        exact ⟨rfl, hq⟩
theorem asc_len {i : Nat} : ∀ {lo : Int} {F : List Int}, asc i lo F = true → F = [] ∨ lo + F.length < i
  | _, [], _ => .inl rfl
  | lo, f :: r, h => by
    simp only [asc, Bool.and_eq_true, decide_eq_true_eq] at h
    obtain ⟨h1, h2, h3⟩ := h
    right
    rcases asc_len h3 with e | h4
    · subst e; simp; omega
    · simp only [List.length_cons]; omega
theorem wf_any (a : Option Addr) (r c i : Nat) (R : List StR) (w : World) (hR : CS w a R) (hr : R.length = r) (hi : i < R.length) (hbig : R.length ≤ maxLen) (hok : R[i].ok) :
    Calls Tryd.prog 36 #[.slice a r c, .int .i64 (i : Int)] w (WFP w (wfB i (stp R[i]))) := by
  cases hv : validB R[i].1
  · have e : wfB i (stp R[i]) = false := by unfold wfB stp; simp only; rw [hv]; rfl
    rw [e]
    exact wf_low a r c i R w hR hr hi (.inl hv)
  · by_cases h2 : 2 ≤ nv R[i].1
    · have e : wfB i (stp R[i]) = (if R[i].2.2.2.2 = [] then decide (R[i].2.1.size = 0) else asc i (-1) R[i].2.2.2.2 && bsB R[i].1 R[i].2.1) := by
        unfold wfB stp bsB; simp only; rw [hv, decide_eq_true h2]; rfl
      rw [e]
      exact wf_high a r c i R w hR hr hi hbig hok hv h2
    · have e : wfB i (stp R[i]) = false := by unfold wfB stp; simp only; rw [hv, decide_eq_false h2]; rfl
      rw [e]
      exact wf_low a r c i R w hR hr hi (.inr ⟨hv, by omega⟩)
theorem wfAll_at {R : List StR} (h : wfAll (R.map stp) = true) {k : Nat} (hk : k < R.length) : wfB k (stp R[k]) = true := by
  have := List.all_eq_true.1 h k (List.mem_range.2 (by simpa using hk))
  rwa [show (R.map stp).getD k (⟨#[]⟩, ⟨#[]⟩, []) = stp R[k] by simp [List.getD_eq_getElem?_getD, hk]] at this
theorem wfB_parts {i : Nat} {P A : ByteArray} {fa : Option Addr} {fc : Nat} {F : List Int} (h : wfB i (stp (P, A, fa, fc, F)) = true) : IsN P (nv P) ∧ 2 ≤ nv P ∧ (F ≠ [] → asc i (-1) F = true ∧ IsN A (nv A)) := by
  unfold wfB stp at h
  simp only [Bool.and_eq_true, decide_eq_true_eq] at h
  refine ⟨isN_of h.1, h.2.1, fun hne => ?_⟩
  have h3 := h.2.2
  rw [if_neg hne] at h3
  simp only [Bool.and_eq_true, decide_eq_true_eq] at h3
  exact ⟨h3.1, isN_of h3.2.1⟩
theorem wfParts {R : List StR} (h : wfAll (R.map stp) = true) : ∀ x ∈ R, IsN x.1 (nv x.1) ∧ 2 ≤ nv x.1 := by
  intro x hx
  obtain ⟨k, hk, rfl⟩ := List.mem_iff_getElem.1 hx
  have := wfB_parts (wfAll_at h hk)
  exact ⟨this.1, this.2.1⟩
theorem cor_any (a : Option Addr) (r c k : Nat) (R : List StR) (w : World) (hT : Tab w) (hR : CS w a R) (hr : R.length = r) (hk : k < R.length) (hbig : R.length ≤ 256) (hw : wfAll (R.map stp) = true) :
    Calls Tryd.prog 37 #[.slice a r c, .agg #[.string R[k].1, .string R[k].2.1, .slice R[k].2.2.1 R[k].2.2.2.2.length R[k].2.2.2.1]] w fun e w' => e = .returned (.bool (crB (R.map stp) (stp R[k]))) ∧ Below w.heap.size w w' := by
  obtain ⟨b, off, rfl, _, _, _, hF⟩ := hR k hk
  have hp := wfAll_at hw hk
  have hok := wfParts hw
  generalize R[k] = x at hF hp
  obtain ⟨P, A, fa, fc, F⟩ := x
  obtain ⟨h1, h2, h3⟩ := wfB_parts hp
  simp only at hF ⊢
  by_cases h0 : F = []
  · subst h0
    exact ceCorrect0_any _ r c R P A fa fc w hT h1
  · obtain ⟨h4, h5⟩ := h3 h0
    have hlen : F.length ≤ 100000 := by
      rcases asc_len h4 with e | h
      · exact absurd e h0
      · omega
    exact ceCorrect1_any _ r c F.length R P A fa fc F w hR hr hF rfl (Nat.pos_of_ne_zero fun e => h0 (List.length_eq_zero_iff.1 e)) hlen hok h1 h2 h5 (fun f hf => by
      have := asc_mem h4 f hf
      exact ⟨by omega, by omega⟩)
/-- a certificate in a variable -/
def CtB (w : World) (b : Nat) (v : Value) : Prop := w.heap[b]? = some (.cells #[v] 33 (0, 0))
theorem CtB.lt {w : World} {b : Nat} {v : Value} (h : CtB w b v) : b < w.heap.size := (Array.getElem?_eq_some_iff.1 h).1
theorem CtB.c0 {w : World} {b : Nat} {v : Value} (h : CtB w b v) : w.cell? ⟨b, 0, none⟩ = some v := by rw [Lib.cell_of_heap h]; rfl
theorem CtB.new (w : World) (v : Value) : CtB (w.alloc (.cells #[v] 33)) w.heap.size v := heap_alloc_new w _
theorem CtB.below {w w' : World} {b : Nat} {v : Value} {K : Nat} (h : CtB w b v) (hb : Below K w w') (hK : b < K) : CtB w' b v := (hb.block b hK).trans h
theorem wfAll_false {R : List StR} {k : Nat} (hk : k < R.length) (h : wfB k (stp R[k]) = false) : wfAll (R.map stp) = false := by
  cases hh : wfAll (R.map stp)
  · rfl
  · rw [wfAll_at hh hk] at h; cases h
theorem wfAll_true {R : List StR} (h : ∀ k (hk : k < R.length), wfB k (stp R[k]) = true) : wfAll (R.map stp) = true := by
  unfold wfAll
  refine List.all_eq_true.2 fun k hk => ?_
  have hk' : k < R.length := by simpa using hk
  rw [show (R.map stp).getD k (⟨#[]⟩, ⟨#[]⟩, []) = stp R[k] by simp [List.getD_eq_getElem?_getD, hk']]
  exact h k hk'
set_option maxHeartbeats 4000000 in
theorem ceCheck_any (a : Option Addr) (r c : Nat) (R : List StR) (w : World) (hT : Tab w) (hR : CS w a R) (hr : R.length = r) (hbig : R.length ≤ maxLen) (hok : ∀ x ∈ R, x.ok) :
    Calls Tryd.prog 13 #[.agg #[.slice a r c]] w fun e w' => e = .returned (.int .i64 (ckC (R.map stp))) ∧ Below w.heap.size w w' := by
  have hS := CtB.new w (.slice a r c)
  have hb := (Below.refl _ w).alloc (Nat.le_refl _) (.cells #[.slice a r c] 33)
  obtain ⟨E, hE⟩ : ∃ E, ckC (R.map stp) = E := ⟨_, rfl⟩
  rw [hE]
  have HE := Lib.hid hE
  have HR := Lib.hid (hR.below hb (Nat.le_refl _))
  have HT := Lib.hid (hT.below hb)
  have HOK := Lib.hid hok
  have HN := Lib.hid hr
  have hbig2 : r ≤ maxLen := by rw [← hr]; exact hbig
  have HBIG := Lib.hid hbig
  unfold maxLen at hbig2
  have HWF := Lib.hid (fun k (hk : k < R.length) w (h : CS w a R) => wf_any a r c k R w h hr hk hbig (hok _ (List.getElem_mem hk)))
  clear hE hR hT hok hr hbig
  go_enter Tryd.func13, Tryd.ntmps13
  go_wp2_with fail
  generalize World.alloc _ _ = w0 at hS hb HR HT ⊢
  have c0 := hS.c0
  go_wp2_with fail
  go_loopw [9] (fun i wr => ∃ k : Nat, k ≤ r ∧ i = .int .i64 k ∧ Hid (∀ j (hj : j < R.length), j < k → wfB j (stp R[j]) = true) ∧ Below w0.heap.size w0 wr) (fun i _ => r - (intOf i).toNat)
  case atStart => exact ⟨0, by omega, rfl, Lib.hid (fun j hj h => by omega), Below.refl _ _⟩
  case round =>
    obtain ⟨k, hk, rfl, hW, hB⟩ := hrel
    have c1 := (hS.below hB hS.lt).c0
    have hBw := hb.trans (hB.mono hb.size)
    by_cases hlt : k < r
    · have hkR : k < R.length := by rw [HN.out]; exact hlt
      have HC := HWF.out k hkR wr (HR.out.below hB (Nat.le_refl _))
      unfold WFP at HC
      cases hv : wfB k (stp R[k])
      · have hE3 : E = 3 := by
          rw [← HE.out]; unfold ckC; rw [wfAll_false hkR hv]; rfl
        subst hE3
        rw [hv] at HC
        have HC := Lib.hid HC
        clear hv c0
        go_wp2_with fail
        refine HC.out.mono ?_; rintro e w2 ⟨rfl, b2⟩
        have hB2 := hBw.trans (b2.mono hBw.size)
        go_wp2_with fail
        go_ret
        exact ⟨rfl, hB2⟩
      · rw [hv] at HC
        have HC := Lib.hid HC
        have HW2 : Hid (∀ j (hj : j < R.length), j < k + 1 → wfB j (stp R[j]) = true) := fun j hj h => by
          rcases Nat.lt_or_ge j k with h' | h'
          · exact hW.out j hj h'
          · obtain rfl : j = k := by omega
            exact hv
        clear hv c0 hW
        go_wp2_with fail
        refine HC.out.mono ?_; rintro e w2 ⟨rfl, b2⟩
        have hB2 := hB.trans (b2.mono hB.size)
        go_wp2_with fail
        exact ⟨⟨k + 1, by omega, by go_num, HW2, hB2⟩, by simp [intOf]; omega⟩
    · obtain rfl : k = r := by omega
      have hall : wfAll (R.map stp) = true := wfAll_true fun j hj => hW.out j hj (by have := HN.out; omega)
      have hE2 := HE.out
      unfold ckC at hE2
      rw [if_pos hall, List.length_map, HN.out] at hE2
      have hS1 := hS.below hB hS.lt
      have HR1 := Lib.hid (HR.out.below hB (Nat.le_refl _))
      have HT1 := Lib.hid (HT.out.below hB)
      clear HE hW c0 HR HT HWF
      by_cases h0 : k = 0
      · subst h0
        obtain rfl : E = 3 := hE2.symm
        go_wp2_with fail
        go_ret
        exact ⟨rfl, hBw⟩
      · have n1 : ¬ ((k : Int) = 0) := by omega
        have n2 : ((k : Int) == 0) = false := by rw [beq_eq_false_iff_ne]; exact n1
        rw [if_neg h0] at hE2
        by_cases h256 : 256 < k
        · rw [if_pos h256] at hE2
          obtain rfl : E = 6 := hE2.symm
          have d1 : decide ((256 : Int) < (k : Int)) = true := decide_eq_true (by omega)
          go_wp2_with fail
          go_ret
          exact ⟨rfl, hBw⟩
        · rw [if_neg h256] at hE2
          have d1 : decide ((256 : Int) < (k : Int)) = false := decide_eq_false (by omega)
          have d2 : ¬ (256 : Int) < (k : Int) := by omega
          have HCO := Lib.hid (fun j (hj : j < R.length) w (hT : Tab w) (h : CS w a R) => cor_any a k c j R w hT h HN.out hj (by have := HN.out; omega) hall)
          have HE2 := Lib.hid hE2
          have HALL := Lib.hid hall
          clear hE2 hall
          go_wp2_with fail
          go_loopw [31] (fun i wq => ∃ l : Nat, l ≤ k ∧ i = .int .i64 l ∧ Hid (((R.map stp).take l).all (crB (R.map stp)) = true) ∧ Below wr.heap.size wr wq) (fun i _ => k - (intOf i).toNat)
          case atStart => exact ⟨0, by omega, rfl, Lib.hid (by simp), Below.refl _ _⟩
          case round =>
            clear c1 d1 d2 n1 n2
            obtain ⟨l, hl, rfl, hW, hBq⟩ := hrel
            have c1 := (hS1.below hBq hS1.lt).c0
            have hBz := hBw.trans (hBq.mono hBw.size)
            by_cases hlt2 : l < k
            · have hlR : l < R.length := by rw [HN.out]; exact hlt2
              have hRq := HR1.out.below hBq (Nat.le_refl _)
              obtain ⟨b, off, rfl, x0, x1, x2, _⟩ := hRq l hlR
              have hlM : l < (R.map stp).length := by simpa using hlR
              have HT2 : Hid ((R.map stp).take (l + 1) = (R.map stp).take l ++ [stp R[l]]) := by
                show _ = _
                rw [List.take_succ_eq_append_getElem hlM]; simp
              have HCC := fun w hT h => HCO.out l hlR w hT h
              have hbad : crB (R.map stp) (stp R[l]) = false → E = 12 := fun h => by
                rw [← HE2.out, if_neg]
                rw [Bool.not_eq_true, List.all_eq_false]
                exact ⟨stp R[l], List.mem_map.2 ⟨_, List.getElem_mem hlR, rfl⟩, by rw [h]; simp⟩
              obtain ⟨D, hD⟩ : ∃ D, crB (R.map stp) (stp R[l]) = D := ⟨_, rfl⟩
              simp only [hD] at HCC hbad
              have hgood : D = true → ((R.map stp).take (l + 1)).all (crB (R.map stp)) = true := fun h => by
                rw [HT2.out, List.all_append, hW.out]; simp [hD, h]
              generalize R[l] = x at x0 x1 x2 HCC
              obtain ⟨P, A, fa, fc, F⟩ := x
              simp only at x0 x1 x2 HCC
              have hq0 := hBz.alloc hBz.size (.cells #[.string P, .string A, .slice fa F.length fc] 44)
              have hq1 := hBq.alloc hBq.size (.cells #[.string P, .string A, .slice fa F.length fc] 44)
              have hq2 := (Below.refl wr.heap.size wr).alloc (Nat.le_refl _) (.cells #[.string P, .string A, .slice fa F.length fc] 44)
              have HRQ := Lib.hid (hRq.below hq2 (Nat.le_refl _))
              have HTQ := Lib.hid ((HT1.out.below hBq).below hq2)
              have hc2 := cellB_keep c1 hq2
              have HCC := Lib.hid HCC
              have HGB := Lib.hid (And.intro hbad hgood)
              clear hbad hgood hD HT2 hRq
              obtain ⟨n, hn⟩ : ∃ n, F.length = n := ⟨_, rfl⟩
              rw [hn] at x2 HCC hq0 hq1 hq2 HRQ HTQ hc2
              have hSn := StB.new (P := .string P) (A := .string A) (v := .slice fa n fc) wr
              clear hn
              go_wp2_with fail
              generalize World.alloc _ _ = w3 at hq0 hq1 hq2 HRQ HTQ hc2 hSn ⊢
              have y0 := hSn.c0
              have y1 := hSn.c1
              have y2 := hSn.c2
              cases D
              · obtain rfl : E = 12 := HGB.out.1 rfl
                go_wp2_with fail
                refine (HCC.out _ HTQ.out HRQ.out).mono ?_; rintro e w4 ⟨rfl, b4⟩
                have hB4 := hq0.trans (b4.mono hq0.size)
                go_wp2_with fail
                go_ret
                exact ⟨rfl, hB4⟩
              · have HG := Lib.hid (HGB.out.2 rfl)
                go_wp2_with fail
                refine (HCC.out _ HTQ.out HRQ.out).mono ?_; rintro e w4 ⟨rfl, b4⟩
                have hB4 := hq1.trans (b4.mono hq1.size)
                go_wp2_with fail
                exact ⟨⟨l + 1, by omega, by go_num, HG, hB4⟩, by simp [intOf]; omega⟩
            · obtain rfl : l = k := by omega
              have hE0 : E = 0 := by
                have := hW.out
                rw [List.take_of_length_le (by simp [HN.out])] at this
                rw [← HE2.out, if_pos this]
              subst hE0
              go_wp2_with fail
              go_ret
              exact ⟨rfl, hBz⟩
/-- what Prime answers -/
def prC (L : List Stp) : ByteArray := match L.getLast? with | some s => s.1 | none => ⟨#[]⟩
theorem prC_last {R : List StR} (h : 0 < R.length) : prC (R.map stp) = (R[R.length - 1]).1 := by
  unfold prC
  rw [List.getLast?_map, List.getLast?_eq_getElem?, List.getElem?_eq_getElem (by omega)]
  rfl
theorem cePrime_any (a : Option Addr) (r c : Nat) (R : List StR) (w : World) (hR : CS w a R) (hr : R.length = r) (hbig : R.length ≤ maxLen) :
    Calls Tryd.prog 14 #[.agg #[.slice a r c]] w fun e w' => e = .returned (.string (prC (R.map stp))) ∧ Below w.heap.size w w' := by
  have hS := CtB.new w (.slice a r c)
  have hb := (Below.refl _ w).alloc (Nat.le_refl _) (.cells #[.slice a r c] 33)
  have hR0 := hR.below hb (Nat.le_refl _)
  by_cases h0 : r = 0
  · subst h0
    obtain rfl : R = [] := List.length_eq_zero_iff.1 hr
    rw [show prC (([] : List StR).map stp) = ⟨#[]⟩ from rfl]
    clear hR hR0
    go_enter Tryd.func14, Tryd.ntmps14
    go_wp2_with fail
    generalize World.alloc _ _ = w0 at hS hb ⊢
    have c0 := hS.c0
    go_wp2_with fail
    go_ret
    exact ⟨rfl, hb⟩
  · have hl : R.length - 1 < R.length := by omega
    rw [prC_last (by omega)]
    obtain ⟨b, off, rfl, x0, _, _, _⟩ := hR0 (R.length - 1) hl
    generalize (R[R.length - 1]).1 = P at x0 ⊢
    rw [hr] at hbig x0
    unfold maxLen at hbig
    have n1 : ¬ ((r : Int) = 0) := by omega
    have n2 : ((r : Int) == 0) = false := by rw [beq_eq_false_iff_ne]; exact n1
    have o1 : IntKind.i64.wrap ((r : Int) - 1) = ((r - 1 : Nat) : Int) := by rw [wraps_i64 _ (by omega) (by omega)]; omega
    obtain ⟨j, hj⟩ : ∃ j, r - 1 = j := ⟨_, rfl⟩
    have hjr : j < r := by omega
    rw [hj] at x0 o1
    clear hR hR0
    go_enter Tryd.func14, Tryd.ntmps14
    go_wp2_with fail
    generalize World.alloc _ _ = w0 at hS hb x0 ⊢
    have c0 := hS.c0
    go_wp2_with fail
    go_ret
    exact ⟨rfl, hb⟩
end Go.Proofs.YtjminjliomffaaaDoor
