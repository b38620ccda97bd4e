/- dominolaw13: Few and the examples. -/
import Derived.Test.YtmbenndmkacjpaaPwE
namespace Go.Proofs.Ytmbenndmkacjpaa
open Go.RowKit Num
set_option maxRecDepth 20000
set_option linter.unusedVariables false
theorem is_two (w : World) (n1 n2 : Bool) (t1 t2 : ByteArray) : IS (w.alloc (.cells #[.bool n1, .string t1, .bool n2, .string t2] 40)) (some ⟨w.heap.size, 0, none⟩) [(n1, t1), (n2, t2)] := by
  intro k hk
  match k, hk with
  | 0, _ => exact ⟨_, _, rfl, by rw [Lib.cell_of_heap (heap_alloc_new w _)]; rfl, by rw [Lib.cell_of_heap (heap_alloc_new w _)]; rfl⟩
  | 1, _ => exact ⟨_, _, rfl, by rw [Lib.cell_of_heap (heap_alloc_new w _)]; rfl, by rw [Lib.cell_of_heap (heap_alloc_new w _)]; rfl⟩
def few9 (M O : ByteArray) (l : List ByteArray) : Bool := l.all (fun x => decide (x.size ≤ 20)) && decide (M.size ≤ 8 ∧ O.size ≤ 10)
theorem few9_any (M O : ByteArray) (ao : Option Addr) (cl n : Nat) (l : List ByteArray) (w : World) (hl : NS w ao l) (hn : l.length = n) (h1 : n ≤ maxLen) (h2 : ∀ x ∈ l, x.size ≤ maxLen) :
    Calls Try.prog 6 #[.agg #[.string M, .string O], .slice ao n cl] w fun e w' => e = .returned (.bool (few9 M O l)) ∧ Below w.heap.size w w' := by
  unfold maxLen at h1 h2
  have hb := (Below.refl _ w).alloc (Nat.le_refl _) (.cells #[.string M, .string O] 24)
  have hG := GB.new w M O
  have HH2 := Lib.hid h2
  clear h2
  go_enter Try.func6, Try.ntmps6
  go_wp2_with fail
  have HL := Lib.hid (hl.below hb (Nat.le_refl _))
  generalize w.alloc _ = w0 at hb hG HL ⊢
  clear hl
  have c0 := hG.c0
  have c1 := hG.c1
  have HN := Lib.hid hn
  clear hn
  go_loop [5] (fun i => ∃ k : Nat, k ≤ n ∧ i = .int .i64 k ∧ Hid (∀ j (hj : j < l.length), j < k → l[j].size ≤ 20)) (fun i => n - (intOf i).toNat)
  case atStart => exact ⟨0, by omega, rfl, fun j _ h => by omega⟩
  case round =>
    obtain ⟨k, hk, rfl, hv⟩ := hrel
    by_cases hlt : k < n
    · have hkl : k < l.length := by rw [HN.out]; exact hlt
      obtain ⟨b, off, rfl, hc⟩ := HL.out k hkl
      have hsz := HH2.out _ (List.getElem_mem hkl)
      by_cases hval : l[k].size ≤ 20
      · go_wp2_with fail
        go_round
        case rel => exact ⟨k + 1, by omega, by go_num, fun j hj hjk => by
          by_cases e : j = k
          · subst e; exact hval
          · exact hv.out j hj (by omega)⟩
        case measure => simp [intOf]; omega
      · have HR : Hid (few9 M O l = false) := by
          show _ = _
          unfold few9
          rw [Bool.and_eq_false_iff]
          refine .inl ?_
          rw [List.all_eq_false]
          exact ⟨_, List.getElem_mem hkl, by simpa using hval⟩
        go_wp2_with fail
        go_ret
        exact ⟨ret_bool HR.out.symm, hb⟩
    · obtain rfl : k = n := by omega
      have ha : l.all (fun x => decide (x.size ≤ 20)) = true := all_of fun j hj => decide_eq_true (hv.out j hj (by have := HN.out; omega))
      have hr : few9 M O l = decide (M.size ≤ 8 ∧ O.size ≤ 10) := by unfold few9; rw [ha, Bool.true_and]
      have HR := Lib.hid hr
      clear hv ha hr hlt
      by_cases h8 : M.size ≤ 8
      · by_cases h10 : O.size ≤ 10
        · have HF := Lib.hid (HR.out.trans (decide_eq_true ⟨h8, h10⟩))
          go_wp2_with fail
          go_ret
          exact ⟨ret_bool ((decide_eq_true (by omega)).trans HF.out.symm), hb⟩
        · have HF := Lib.hid (HR.out.trans (decide_eq_false fun h => h10 h.2))
          go_wp2_with fail
          go_ret
          exact ⟨ret_bool ((decide_eq_false (by omega)).trans HF.out.symm), hb⟩
      · have HF := Lib.hid (HR.out.trans (decide_eq_false fun h => h8 h.1))
        go_wp2_with fail
        go_ret
        exact ⟨ret_bool HF.out.symm, hb⟩
def few13 (M O : ByteArray) (l : List ByteArray) (es : List (Bool × ByteArray)) : Bool := (es.take 10).all (fun e => decide (e.2.size ≤ 20)) && (decide (l.length ≤ 8) && (decide (es.length ≤ 8) && few9 M O l))
set_option maxHeartbeats 4000000 in
theorem few13_any (M O : ByteArray) (ao bo : Option Addr) (cl ce n1 n2 : Nat) (l : List ByteArray) (es : List (Bool × ByteArray)) (w : World) (hl : NS w ao l) (he : IS w bo es) (hn1 : l.length = n1) (hn2 : es.length = n2) (h1 : n1 ≤ maxLen) (h2 : n2 ≤ maxLen) (h3 : ∀ x ∈ l, x.size ≤ maxLen) (h4 : ∀ x ∈ es, x.2.size ≤ maxLen) :
    Calls Try.prog 14 #[.agg #[.string M, .string O], .slice ao n1 cl, .slice bo n2 ce] w fun e w' => e = .returned (.bool (few13 M O l es)) ∧ Below w.heap.size w w' := by
  have h1' := h1
  unfold maxLen at h1' h2 h4
  have hb := (Below.refl _ w).alloc (Nat.le_refl _) (.cells #[.string M, .string O] 24)
  have hG := GB.new w M O
  have HH4 := Lib.hid h4
  have HF9 := Lib.hid (fun w (h : NS w ao l) => few9_any M O ao cl n1 l w h hn1 h1 h3)
  clear h4 h1 h3
  go_enter Try.func14, Try.ntmps14
  go_wp2_with fail
  have HE := Lib.hid (he.below hb (Nat.le_refl _))
  have HL := Lib.hid (hl.below hb (Nat.le_refl _))
  generalize w.alloc _ = w0 at hb hG HL HE ⊢
  clear hl he
  have c0 := hG.c0
  have c1 := hG.c1
  have HN := Lib.hid (And.intro hn1 hn2)
  clear hn1 hn2
  go_loop [7] (fun i => ∃ k : Nat, k ≤ n2 ∧ k ≤ 10 ∧ i = .int .i64 k ∧ Hid (∀ j (hj : j < es.length), j < k → es[j].2.size ≤ 20)) (fun i => n2 - (intOf i).toNat)
  case atStart => exact ⟨0, by omega, by omega, rfl, fun j _ h => by omega⟩
  case round =>
    obtain ⟨k, hk, hk10, rfl, hv⟩ := hrel
    by_cases hlt : k < n2 ∧ k < 10
    · obtain ⟨hlt, hlt2⟩ := hlt
      have hkl : k < es.length := by rw [HN.out.2]; exact hlt
      obtain ⟨b, off, rfl, _, hc⟩ := HE.out k hkl
      have hsz := HH4.out _ (List.getElem_mem hkl)
      by_cases hval : es[k].2.size ≤ 20
      · go_wp2_with fail
        go_round
        case rel => exact ⟨k + 1, by omega, by omega, by go_num, fun j hj hjk => by
          by_cases e : j = k
          · subst e; exact hval
          · exact hv.out j hj (by omega)⟩
        case measure => simp [intOf]; omega
      · have HR : Hid (few13 M O l es = false) := by
          show _ = _
          unfold few13
          rw [Bool.and_eq_false_iff]
          refine .inl ?_
          rw [List.all_eq_false]
          exact ⟨es[k], List.mem_take_iff_getElem.2 ⟨k, by omega, rfl⟩, by simpa using hval⟩
        go_wp2_with fail
        go_ret
        exact ⟨ret_bool HR.out.symm, hb⟩
    · have ha : (es.take 10).all (fun e => decide (e.2.size ≤ 20)) = true := by
        rw [List.all_eq_true]
        intro x hx
        obtain ⟨j, hj, rfl⟩ := List.mem_take_iff_getElem.1 hx
        exact decide_eq_true (hv.out j (by omega) (by have := HN.out.2; omega))
      have hr : few13 M O l es = (decide (l.length ≤ 8) && (decide (es.length ≤ 8) && few9 M O l)) := by unfold few13; rw [ha, Bool.true_and]
      rw [HN.out.1, HN.out.2] at hr
      have HR := Lib.hid hr
      clear hv ha hr
      have hex : (n2 ≤ k) ∨ (k < n2 ∧ 10 ≤ k) := by omega
      by_cases a1 : n1 ≤ 8
      · by_cases a2 : n2 ≤ 8
        · have hk2 : k = n2 := by omega
          subst hk2
          have HF := Lib.hid (show few13 M O l es = few9 M O l by rw [HR.out, decide_eq_true a1, decide_eq_true a2]; rfl)
          clear hlt hex
          go_wp2_with fail
          refine (HF9.out _ HL.out).mono ?_; rintro e w2 ⟨rfl, b2⟩
          go_wp2_with fail
          go_ret
          exact ⟨ret_bool HF.out.symm, hb.trans (b2.mono hb.size)⟩
        · have HF := Lib.hid (show few13 M O l es = false by rw [HR.out, decide_eq_false a2, Bool.false_and, Bool.and_false])
          rcases hex with hex | ⟨hx1, hx2⟩
          · clear hlt
            go_wp2_with fail
            go_ret
            exact ⟨ret_bool HF.out.symm, hb⟩
          · clear hlt
            go_wp2_with fail
            go_ret
            exact ⟨ret_bool HF.out.symm, hb⟩
      · have HF := Lib.hid (show few13 M O l es = false by rw [HR.out, decide_eq_false a1, Bool.false_and])
        rcases hex with hex | ⟨hx1, hx2⟩
        · clear hlt
          go_wp2_with fail
          go_ret
          exact ⟨ret_bool HF.out.symm, hb⟩
        · clear hlt
          go_wp2_with fail
          go_ret
          exact ⟨ret_bool HF.out.symm, hb⟩
end Go.Proofs.Ytmbenndmkacjpaa
