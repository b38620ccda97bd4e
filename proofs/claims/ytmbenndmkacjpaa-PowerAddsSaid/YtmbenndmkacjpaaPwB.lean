/- power: rows of strings and integers that are handed over; checked, Mul. -/
import Derived.Test.YtmbenndmkacjpaaPwA
import Derived.Test.YtmbenndmkacjpaaInt
import Derived.Test.YtmbenndmkacjpaaMod
namespace Go.Proofs.Ytmbenndmkacjpaa
open Go.RowKit Num
set_option maxRecDepth 20000
set_option linter.unusedVariables false
/-- the numbers of a slice -/
def NS (w : World) (ao : Option Addr) (L : List ByteArray) : Prop := ∀ k (h : k < L.length), ∃ b off, ao = some ⟨b, off, none⟩ ∧ w.cell? ⟨b, off + k, none⟩ = some (.string L[k])
/-- the integers of a slice -/
def IS (w : World) (ao : Option Addr) (L : List (Bool × ByteArray)) : Prop := ∀ k (h : k < L.length), ∃ b off, ao = some ⟨b, off, none⟩ ∧ w.cell? ⟨b, off + k * 2, none⟩ = some (.bool L[k].1) ∧ w.cell? ⟨b, off + k * 2 + 1, none⟩ = some (.string L[k].2)
theorem cellB_lt {w : World} {b o : Nat} {v : Value} (h : w.cell? ⟨b, o, none⟩ = some v) : b < w.heap.size := World.block_lt_of_cell? w _ h
theorem cellB_below {w w' : World} {K b o : Nat} {v : Value} (h : w.cell? ⟨b, o, none⟩ = some v) (hb : Below K w w') (hK : w.heap.size ≤ K) : w'.cell? ⟨b, o, none⟩ = some v := by
  have := cellB_lt h
  rw [hb.cell (p := ⟨b, o, none⟩) (by show b < K; omega)]; exact h
theorem NS.below {w w' : World} {ao : Option Addr} {L : List ByteArray} {K : Nat} (h : NS w ao L) (hb : Below K w w') (hK : w.heap.size ≤ K) : NS w' ao L := fun k hk => by
  obtain ⟨b, off, h1, h2⟩ := h k hk
  exact ⟨b, off, h1, cellB_below h2 hb hK⟩
theorem IS.below {w w' : World} {ao : Option Addr} {L : List (Bool × ByteArray)} {K : Nat} (h : IS w ao L) (hb : Below K w w') (hK : w.heap.size ≤ K) : IS w' ao L := fun k hk => by
  obtain ⟨b, off, h1, h2, h3⟩ := h k hk
  exact ⟨b, off, h1, cellB_below h2 hb hK, cellB_below h3 hb hK⟩
theorem NS.of_str {w : World} {b : Nat} {L : List ByteArray} (h : StrAt w b L) : NS w (some ⟨b, 0, none⟩) L := fun k hk => ⟨b, 0, rfl, by rw [Nat.zero_add]; exact h k hk⟩
theorem NS.nil (w : World) (ao : Option Addr) : NS w ao [] := fun k hk => by simp at hk
theorem IS.nil (w : World) (ao : Option Addr) : IS w ao [] := fun k hk => by simp at hk
/-- a valid integer -/
def ivB (p : Bool × ByteArray) : Bool := validB p.2 && !(p.1 && p.2.toList.isEmpty)
/-- what checked answers -/
def ckE (M O : ByteArray) (l : List ByteArray) (es : List (Bool × ByteArray)) (same : Bool) : Int :=
  if l.all validB = true ∧ es.all ivB = true then (if gE M O = 0 then (if same = true then (if l.all (fun x => elN (nv M) (nv O) (nv x)) = true then 0 else 13) else 6) else gE M O) else 3
theorem ck_three {M O : ByteArray} {l : List ByteArray} {es : List (Bool × ByteArray)} {same : Bool} (h : ¬ (l.all validB = true ∧ es.all ivB = true)) : ckE M O l es same = 3 := if_neg h
theorem ck_group {M O : ByteArray} {l : List ByteArray} {es : List (Bool × ByteArray)} {same : Bool} (h : l.all validB = true ∧ es.all ivB = true) (hg : gE M O ≠ 0) : ckE M O l es same = gE M O := by unfold ckE; rw [if_pos h, if_neg hg]
theorem ck_many {M O : ByteArray} {l : List ByteArray} {es : List (Bool × ByteArray)} (h : l.all validB = true ∧ es.all ivB = true) (hg : gE M O = 0) : ckE M O l es false = 6 := by unfold ckE; rw [if_pos h, if_pos hg]; rfl
theorem ck_last {M O : ByteArray} {l : List ByteArray} {es : List (Bool × ByteArray)} (h : l.all validB = true ∧ es.all ivB = true) (hg : gE M O = 0) : ckE M O l es true = if l.all (fun x => elN (nv M) (nv O) (nv x)) = true then 0 else 13 := by unfold ckE; rw [if_pos h, if_pos hg, if_pos rfl]
theorem all_of {α : Type} {p : α → Bool} {l : List α} (h : ∀ j (hj : j < l.length), p l[j] = true) : l.all p = true := by
  rw [List.all_eq_true]
  intro x hx
  obtain ⟨j, hj, rfl⟩ := List.mem_iff_getElem.1 hx
  exact h j hj
theorem not_all {α : Type} {p : α → Bool} {l : List α} {j : Nat} (hj : j < l.length) (h : p l[j] = false) : ¬ l.all p = true := fun ha => by
  have := List.all_eq_true.1 ha _ (List.getElem_mem hj)
  rw [h] at this; cases this
set_option maxHeartbeats 4000000 in
theorem checked_any (M O : ByteArray) (ao bo : Option Addr) (cl ce : Nat) (l : List ByteArray) (es : List (Bool × ByteArray)) (same : Bool) (w : World) (hl : NS w ao l) (he : IS w bo es) (l1 : l.length ≤ 1000) (l2 : es.length ≤ 1000) :
    Calls Try.prog 27 #[.agg #[.string M, .string O], .slice ao l.length cl, .slice bo es.length ce, .bool same] w fun e w' => e = .returned (.int .i64 (ckE M O l es same)) ∧ Below w.heap.size w w' := by
  have hb := (Below.refl _ w).alloc (Nat.le_refl _) (.cells #[.string M, .string O] 24)
  have hG := GB.new w M O
  go_enter Try.func27, Try.ntmps27
  go_wp2_with fail
  have HL := Lib.hid (hl.below hb (Nat.le_refl _))
  have HE := Lib.hid (he.below hb (Nat.le_refl _))
  generalize w.alloc _ = w0 at hb hG HL HE ⊢
  clear hl he
  go_loop [18] (fun i => ∃ k : Nat, k ≤ l.length ∧ i = .int .i64 k ∧ Hid (∀ j (hj : j < l.length), j < k → validB l[j] = true)) (fun i => l.length - (intOf i).toNat)
  case atStart => exact ⟨0, by omega, rfl, fun j _ h => by omega⟩
  case round =>
    obtain ⟨k, hk, rfl, hv⟩ := hrel
    by_cases hlt : k < l.length
    · obtain ⟨b, off, rfl, hc⟩ := HL.out k hlt
      by_cases hval : validB l[k] = true
      · go_wp2_with (go_at_call 10; (with_reducible refine (Valid_any _ _).mono ?_); rintro e w' ⟨rfl, rfl⟩)
        go_round
        case rel => exact ⟨k + 1, by omega, by go_num, fun j hj hjk => by
          by_cases e : j = k
          · subst e; exact hval
          · exact hv.out j hj (by omega)⟩
        case measure => simp [intOf]; omega
      · have hval2 : validB l[k] = false := by simpa using hval
        have HR := Lib.hid (ck_three (M := M) (O := O) (es := es) (same := same) fun h => not_all hlt hval2 h.1)
        clear hval
        go_wp2_with (go_at_call 10; (with_reducible refine (Valid_any _ _).mono ?_); rintro e w' ⟨rfl, rfl⟩)
        go_ret
        exact ⟨ret_int HR.out.symm, hb⟩
    · obtain rfl : k = l.length := by omega
      have HV := Lib.hid (all_of fun j hj => hv.out j hj hj)
      clear hv hlt
      go_wp2_with fail
      obtain ⟨wo, rfl⟩ : ∃ wo : World, wo = w0 := ⟨_, rfl⟩
      go_loopw [28] (fun i wr => ∃ k : Nat, k ≤ es.length ∧ i = .int .i64 k ∧ Hid (∀ j (hj : j < es.length), j < k → ivB es[j] = true) ∧ Below wo.heap.size wo wr) (fun i _ => es.length - (intOf i).toNat)
      case atStart => exact ⟨0, by omega, rfl, fun j _ h => by omega, Below.refl _ _⟩
      case round =>
        obtain ⟨k, hk2, rfl, hv, hbr⟩ := hrel
        by_cases hlt : k < es.length
        · obtain ⟨b, off, rfl, hc1, hc2⟩ := HE.out k hlt
          have hc1 := cellB_below hc1 hbr (Nat.le_refl _)
          have hc2 := cellB_below hc2 hbr (Nat.le_refl _)
          have hb2 := hbr.alloc hbr.size (.cells #[.bool es[k].1, .string es[k].2] 40)
          by_cases hval : ivB es[k] = true
          · have HVV := Lib.hid hval
            clear hval
            go_wp2_with fail
            refine (ivalid_any es[k].1 es[k].2 _).mono ?_
            rw [show (validB es[k].2 && !(es[k].1 && es[k].2.toList.isEmpty)) = true from HVV.out]
            rintro e w2 ⟨rfl, b2⟩
            have hb3 := hb2.trans (b2.mono hb2.size)
            go_wp2_with fail
            go_roundw
            case rel => exact ⟨k + 1, by omega, by go_num, fun j hj hjk => (by
              by_cases e : j = k
              · subst e; exact HVV.out
              · exact hv.out j hj (by omega)), hb3⟩
            case measure => simp [intOf]; omega
          · have hval2 : ivB es[k] = false := by simpa using hval
            have HR := Lib.hid (ck_three (M := M) (O := O) (l := l) (same := same) fun h => not_all hlt hval2 h.2)
            have HVV := Lib.hid hval2
            clear hval hval2
            go_wp2_with fail
            refine (ivalid_any es[k].1 es[k].2 _).mono ?_
            rw [show (validB es[k].2 && !(es[k].1 && es[k].2.toList.isEmpty)) = false from HVV.out]
            rintro e w2 ⟨rfl, b2⟩
            have hb3 := hb2.trans (b2.mono hb2.size)
            go_wp2_with fail
            go_ret
            exact ⟨ret_int HR.out.symm, hb.trans (hb3.mono hb.size)⟩
        · obtain rfl : k = es.length := by omega
          have HVE := Lib.hid (all_of fun j hj => hv.out j hj hj)
          have hG1 := hG.below hbr hG.lt
          have HL1 := Lib.hid (HL.out.below hbr (Nat.le_refl _))
          have hb1 := hb.trans (hbr.mono hb.size)
          clear hv hlt hG HL HE hb
          have c0 := hG1.c0
          have c1 := hG1.c1
          rcases gE_cases M O with hg | hg | hg
          rotate_left
          · have HR := Lib.hid (ck_group (same := same) ⟨HV.out, HVE.out⟩ (by rw [hg]; decide))
            have HG := Lib.hid hg
            clear hg
            go_wp2_with fail
            refine (gCheck_any M O _).mono ?_; rw [HG.out]; rintro e w2 ⟨rfl, b2⟩
            go_wp2_with fail
            go_ret
            exact ⟨ret_int (HR.out.trans HG.out).symm, hb1.trans (b2.mono hb1.size)⟩
          · have HR := Lib.hid (ck_group (same := same) ⟨HV.out, HVE.out⟩ (by rw [hg]; decide))
            have HG := Lib.hid hg
            clear hg
            go_wp2_with fail
            refine (gCheck_any M O _).mono ?_; rw [HG.out]; rintro e w2 ⟨rfl, b2⟩
            go_wp2_with fail
            go_ret
            exact ⟨ret_int (HR.out.trans HG.out).symm, hb1.trans (b2.mono hb1.size)⟩
          have HG := Lib.hid hg
          clear hg
          cases same
          · have HR := Lib.hid (ck_many ⟨HV.out, HVE.out⟩ HG.out)
            go_wp2_with fail
            refine (gCheck_any M O _).mono ?_; rw [HG.out]; rintro e w2 ⟨rfl, b2⟩
            go_wp2_with fail
            go_ret
            exact ⟨ret_int HR.out.symm, hb1.trans (b2.mono hb1.size)⟩
          · have HR := Lib.hid (ck_last ⟨HV.out, HVE.out⟩ HG.out)
            go_wp2_with fail
            refine (gCheck_any M O _).mono ?_; rw [HG.out]; rintro e w2 ⟨rfl, b2⟩
            have hG2 := hG1.below b2 hG1.lt
            have HL2 := Lib.hid (HL1.out.below b2 (Nat.le_refl _))
            have hb2 := hb1.trans (b2.mono hb1.size)
            clear hG1 HL1 hb1 b2 c0 c1 hbr
            go_wp2_with fail
            obtain ⟨wp, rfl⟩ : ∃ wp : World, wp = w2 := ⟨_, rfl⟩
            go_loopw [45] (fun i wr => ∃ k : Nat, k ≤ l.length ∧ i = .int .i64 k ∧ Hid (∀ j (hj : j < l.length), j < k → elN (nv M) (nv O) (nv l[j]) = true) ∧ Below wp.heap.size wp wr) (fun i _ => l.length - (intOf i).toNat)
            case atStart => exact ⟨0, by omega, rfl, fun j _ h => by omega, Below.refl _ _⟩
            case round =>
              obtain ⟨k, hk3, rfl, hv, hbr⟩ := hrel
              have hG3 := hG2.below hbr hG2.lt
              have c0 := hG3.c0
              have c1 := hG3.c1
              by_cases hlt : k < l.length
              · obtain ⟨b, off, rfl, hc⟩ := HL2.out k hlt
                have hc := cellB_below hc hbr (Nat.le_refl _)
                have hvk := List.all_eq_true.1 HV.out _ (List.getElem_mem hlt)
                by_cases hval : elN (nv M) (nv O) (nv l[k]) = true
                · have HH := Lib.hid (show (validB l[k] && elN (nv M) (nv O) (nv l[k])) = true by rw [hvk, hval]; rfl)
                  have HVAL := Lib.hid hval
                  clear hval hvk
                  go_wp2_with fail
                  refine (has_any M O l[k] _ HG.out).mono ?_; rw [HH.out]; rintro e w3 ⟨rfl, b3⟩
                  have hb3 := hbr.trans (b3.mono hbr.size)
                  go_wp2_with fail
                  go_roundw
                  case rel => exact ⟨k + 1, by omega, by go_num, fun j hj hjk => (by
                    by_cases e : j = k
                    · subst e; exact HVAL.out
                    · exact hv.out j hj (by omega)), hb3⟩
                  case measure => simp [intOf]; omega
                · have hval2 : elN (nv M) (nv O) (nv l[k]) = false := by simpa using hval
                  have HH := Lib.hid (show (validB l[k] && elN (nv M) (nv O) (nv l[k])) = false by rw [hvk, hval2]; rfl)
                  have HR2 := Lib.hid (HR.out.trans (if_neg (not_all hlt hval2)))
                  clear hval hval2 hvk
                  go_wp2_with fail
                  refine (has_any M O l[k] _ HG.out).mono ?_; rw [HH.out]; rintro e w3 ⟨rfl, b3⟩
                  have hb3 := hbr.trans (b3.mono hbr.size)
                  go_wp2_with fail
                  go_ret
                  exact ⟨ret_int HR2.out.symm, hb2.trans (hb3.mono hb2.size)⟩
              · obtain rfl : k = l.length := by omega
                have HR2 := Lib.hid (HR.out.trans (if_pos (all_of fun j hj => hv.out j hj hj)))
                clear hv hlt
                go_wp2_with fail
                go_ret
                exact ⟨ret_int HR2.out.symm, hb2.trans (hbr.mono hb2.size)⟩
theorem ns_two (w : World) (a b : ByteArray) : NS (w.alloc (.cells #[.string a, .string b] 22)) (some ⟨w.heap.size, 0, none⟩) [a, b] := by
  refine NS.of_str fun j hj => ?_
  rw [Lib.cell_of_heap (heap_alloc_new w _)]
  match j, hj with
  | 0, _ => rfl
  | 1, _ => rfl
/-- what Mul answers -/
def gmE (M O a b : ByteArray) : Int := ckE M O [a, b] [] true
def gmS (M O a b : ByteArray) : ByteArray := mo (gmE M O a b) (nv a * nv b % nv M)
theorem checked2 (M O a b : ByteArray) (ao : Option Addr) (w : World) (h : NS w ao [a, b]) :
    Calls Try.prog 27 #[.agg #[.string M, .string O], .slice ao 2 2, .slice none 0 0, .bool true] w fun e w' => e = .returned (.int .i64 (gmE M O a b)) ∧ Below w.heap.size w w' :=
  checked_any M O ao none 2 0 [a, b] [] true w h (IS.nil _ _) (by simp) (by simp)
theorem ck_ok {M O : ByteArray} {l : List ByteArray} {es : List (Bool × ByteArray)} {same : Bool} (h : ckE M O l es same = 0) : (l.all validB = true ∧ es.all ivB = true) ∧ gE M O = 0 ∧ same = true ∧ l.all (fun x => elN (nv M) (nv O) (nv x)) = true := by
  unfold ckE at h
  split at h
  · rename_i h1
    split at h
    · rename_i h2
      split at h
      · rename_i h3
        split at h
        · rename_i h4
          exact ⟨h1, h2, h3, h4⟩
        · cases h
      · cases h
    · rename_i h2; exact absurd h h2
  · cases h
theorem ck_cases (M O : ByteArray) (l : List ByteArray) (es : List (Bool × ByteArray)) (same : Bool) : ckE M O l es same = 0 ∨ ckE M O l es same = 3 ∨ ckE M O l es same = 6 ∨ ckE M O l es same = 13 := by
  unfold ckE
  split
  · split
    · split
      · split <;> simp
      · simp
    · rcases gE_cases M O with h | h | h <;> simp [h]
  · simp
set_option maxHeartbeats 1000000 in
theorem gMul_any (M O a b : ByteArray) (w : World) :
    Calls Try.prog 16 #[.agg #[.string M, .string O], .string a, .string b] w fun e w' => e = .returned (.tuple #[.string (gmS M O a b), .int .i64 (gmE M O a b)]) ∧ Below w.heap.size w w' := by
  have hb := (Below.refl _ w).alloc (Nat.le_refl _) (.cells #[.string M, .string O] 24)
  have hG := GB.new w M O
  have HCK := Lib.hid (fun w ao h => checked2 M O a b ao w h)
  by_cases h0 : gmE M O a b = 0
  · rw [gmS, h0, mo_zero]
    obtain ⟨h1, h2, h3, h4⟩ := ck_ok h0
    have hM := (gE_ok h2).1
    have hm2 := (gE_ok h2).2.2.1
    have hva : validB a = true := by have := List.all_eq_true.1 h1.1 a (by simp); exact this
    have hvb : validB b = true := by have := List.all_eq_true.1 h1.1 b (by simp); exact this
    have HMM := Lib.hid (fun w => ModMul_ok a b M (nv a) (nv b) (nv M) w (isN_of_valid hva) (isN_of_valid hvb) hM (by omega))
    have H0 := Lib.hid h0
    clear h0 h1 h2 h3 h4 hM hm2 hva hvb
    go_enter Try.func16, Try.ntmps16
    go_wp2_with fail
    have hN := ns_two (w.alloc (.cells #[.string M, .string O] 24)) a b
    have hG1 := hG.alloc (.cells #[.string a, .string b] 22)
    have hb1 := hb.alloc hb.size (.cells #[.string a, .string b] 22)
    rw [World.size_alloc] at hN
    clear hG hb
    generalize World.alloc _ _ = w1 at hG1 hb1 hN ⊢
    refine (HCK.out _ _ hN).mono ?_; rw [H0.out]; rintro e w2 ⟨rfl, b2⟩
    have hG2 := hG1.below b2 hG1.lt
    have hb2 := hb1.trans (b2.mono hb1.size)
    clear hG1 hb1 b2 hN
    have c0 := hG2.c0
    go_wp2_with fail
    refine (HMM.out _).mono ?_; rintro e w3 ⟨rfl, b3⟩
    go_wp2_with fail
    go_ret2
    exact ⟨rfl, hb2.trans (b3.mono hb2.size)⟩
  · rw [gmS, mo_bad h0]
    have hk : gmE M O a b = 3 ∨ gmE M O a b = 6 ∨ gmE M O a b = 13 := (ck_cases M O [a, b] [] true).resolve_left h0
    clear h0
    rcases hk with hk | hk | hk
    all_goals
      rw [hk]
      have H0 := Lib.hid hk
      clear hk
      go_enter Try.func16, Try.ntmps16
      go_wp2_with fail
      have hN := ns_two (w.alloc (.cells #[.string M, .string O] 24)) a b
      have hb1 := hb.alloc hb.size (.cells #[.string a, .string b] 22)
      rw [World.size_alloc] at hN
      clear hG hb
      generalize World.alloc _ _ = w1 at hb1 hN ⊢
      refine (HCK.out _ _ hN).mono ?_; rw [H0.out]; rintro e w2 ⟨rfl, b2⟩
      go_wp2_with fail
      go_ret2
      exact ⟨rfl, hb1.trans (b2.mono hb1.size)⟩
end Go.Proofs.Ytmbenndmkacjpaa
