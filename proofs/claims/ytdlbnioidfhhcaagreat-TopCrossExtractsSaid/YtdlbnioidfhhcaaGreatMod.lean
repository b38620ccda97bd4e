/- Contracts of the package modular: check, reduced, plus, and the products of short numbers. -/
import Derived.Test.YtdlbnioidfhhcaaGreatNatG
import Derived.Test.YtdlbnioidfhhcaaGreatDiv64
namespace Go.Proofs.YtdlbnioidfhhcaaGreat
open Go.RowKit Num
set_option maxRecDepth 20000

/-- strings lie in a block -/
def StrAt (w : World) (b : Nat) (l : List ByteArray) : Prop := ∀ j (h : j < l.length), w.cell? ⟨b, j, none⟩ = some (.string l[j])
theorem StrAt.below {w w' : World} {b : Nat} {l : List ByteArray} {B : Nat} (h : StrAt w b l) (hb : Below B w w') (hB : b < B) : StrAt w' b l := fun j hj => by
  rw [hb.cell (p := ⟨b, j, none⟩) hB]; exact h j hj
/-- the error of numbers and moduli -/
def chk (ls ms : List ByteArray) : Int := if (ls ++ ms).all validB then (if ms.any (fun m => decide (m.size = 0)) then 11 else 0) else 3
theorem info_nat : (Tryz.prog.info? 22).map (fun i => (i.zero, i.size, i.bytes)) = some (some (.string ⟨#[]⟩), 1, 16) := by kernel_rfl
theorem addr_add (b j : Nat) : (⟨b, 0, none⟩ : Addr).add j = ⟨b, j, none⟩ := by unfold Addr.add; split <;> simp_all

theorem StrAt.cells {w : World} {b : Nat} {l : List ByteArray} (h : StrAt w b l) : ∀ j u, (l.map Value.string)[j]? = some u → w.cell? ((⟨b, 0, none⟩ : Addr).add j) = some u := by
  intro j u hu
  rw [addr_add]
  rw [List.getElem?_map] at hu
  cases hj : l[j]? with
  | none => rw [hj] at hu; cases hu
  | some x =>
    rw [hj] at hu
    obtain ⟨hlt, rfl⟩ := List.getElem?_eq_some_iff.1 hj
    cases hu
    exact h j hlt
theorem StrAt.olds {w : World} {b : Nat} {l : List ByteArray} (h : StrAt w b l) : ∀ x, some (⟨b, 0, none⟩ : Addr) = some x → ∀ j u, (l.map Value.string)[j]? = some u → w.cell? (x.add j) = some u := by
  intro x hx; cases hx; exact h.cells
/-- what an owned row of strings is -/
theorem own_str {w : World} {base : Nat} {e : TypeId} {v : Value} {n : Nat} {l : List ByteArray} (h : w.ownsRow base e 1 v n (l.map Value.string)) (hn : 0 < n) :
    ∃ g cap : Nat, v = .slice (some ⟨g, 0, none⟩) n cap ∧ base ≤ g ∧ n ≤ cap ∧ StrAt w g l := by
  have hh := h
  rcases h.2 with ⟨_, h0⟩ | ⟨g, cap, cur, rfl, hb, hg, hnc, hcm, hcs, htake⟩
  · omega
  · refine ⟨g, cap, rfl, hb, hnc, fun j hj => ?_⟩
    have := hh.cells (g := g) rfl j (.string l[j]) (by simp [hj])
    rwa [addr_add] at this
theorem chk_bad {ls ms : List ByteArray} {k : Nat} (hk : k < (ls ++ ms).length) (h : validB (ls ++ ms)[k] = false) : chk ls ms = 3 := by
  unfold chk
  rw [if_neg]
  rw [List.all_eq_true]
  intro hall
  have := hall _ (List.getElem_mem hk)
  rw [h] at this; cases this
theorem chk_good {ls ms : List ByteArray} (h : ∀ k (hk : k < (ls ++ ms).length), validB (ls ++ ms)[k] = true) : chk ls ms = if ms.any (fun m => decide (m.size = 0)) then 11 else 0 := by
  unfold chk
  rw [if_pos]
  rw [List.all_eq_true]
  intro x hx
  obtain ⟨k, hk, rfl⟩ := List.mem_iff_getElem.1 hx
  exact h k hk

set_option maxHeartbeats 1000000 in
theorem check_any (w : World) (b1 b2 : Nat) (ls ms : List ByteArray) (h1 : StrAt w b1 ls) (h2 : StrAt w b2 ms) (l1 : ls.length ≤ 1000) (l2 : ms.length ≤ 1000) (l0 : 0 < ms.length) (hb2 : b2 < w.heap.size) :
    Calls Tryz.prog 71 #[.slice (some ⟨b1, 0, none⟩) ls.length ls.length, .slice (some ⟨b2, 0, none⟩) ms.length ms.length] w fun e w' => e = .returned (.int .i64 (chk ls ms)) ∧ Below w.heap.size w w' := by
  obtain ⟨i0, hi, hz0, hz1, hz2⟩ := info_parts info_nat
  have H1 := Lib.hid h1; clear h1
  have H2 := Lib.hid h2; clear h2
  go_enter Tryz.func71, Tryz.ntmps71
  go_wp2_with (at_builtin; refine wpList_append_grows _ rfl _ _ 31 rfl 22 i0 (.string ⟨#[]⟩) 1 16 Tryz.underlying31 hi hz0 hz1 hz2 rfl (by decide) _ ls.length ls.length (ls.map Value.string) rfl (by intro h; cases h) (by simp) H1.out.olds ⟨b2, 0, none⟩ ms.length ms.length (ms.map Value.string) rfl (by simp) H2.out.cells (by simp [Value.oneCell']) (by omega) (by unfold maxLen; omega) (by omega) ?_; intro v1 w1 hown hgr; rw [← List.map_append] at hown; obtain ⟨g, cap, rfl, hbg, hcap, hst⟩ := own_str hown (by omega); clear hown)
  have hB : Below w.heap.size w w1 := (Below.refl _ _).grown hgr (Nat.le_refl _) (by intro k hk; cases hk)
  have H3 := Lib.hid hst; clear hst
  clear hgr hi hz0 hz1 hz2
  go_loop [13] (fun i => ∃ k : Nat, k ≤ ls.length + ms.length ∧ i = .int .i64 k ∧ Hid (∀ j (hj : j < (ls ++ ms).length), j < k → validB (ls ++ ms)[j] = true)) (fun i => ls.length + ms.length - (intOf i).toNat)
  case atStart => exact ⟨0, by omega, rfl, fun j _ h => by omega⟩
  case round =>
    obtain ⟨k, hk, rfl, hv⟩ := hrel
    by_cases hlt : k < ls.length + ms.length
    · have hl2 : k < (ls ++ ms).length := by rw [List.length_append]; exact hlt
      have hc := H3.out k hl2
      by_cases hval : validB (ls ++ ms)[k] = true
      · go_wp2_with (go_at_call 36; (with_reducible refine (Valid_any _ _).mono ?_); rintro e w' ⟨rfl, rfl⟩)
        go_round
        case rel => exact ⟨k + 1, by omega, by go_num, fun j hj hjk => by
          by_cases e : j = k
          · subst e; exact hval
          · exact hv.out j hj (by omega)⟩
        case measure => simp [intOf]; omega
      · have hval2 : validB (ls ++ ms)[k] = false := by simpa using hval
        have hr := chk_bad hl2 hval2
        have HR := Lib.hid hr; clear hr hval
        go_wp2_with (go_at_call 36; (with_reducible refine (Valid_any _ _).mono ?_); rintro e w' ⟨rfl, rfl⟩)
        go_ret
        exact ⟨ret_int HR.out.symm, hB⟩
    · obtain rfl : k = ls.length + ms.length := by omega
      have hr := chk_good (fun j hj => hv.out j hj (by rw [List.length_append] at hj; exact hj))
      have HR := Lib.hid hr; clear hr
      go_wp2_with fail
      have H4 := Lib.hid (H2.out.below hB hb2)
      clear hv
      go_loop [23] (fun i => ∃ k : Nat, k ≤ ms.length ∧ i = .int .i64 k ∧ Hid (∀ j (hj : j < ms.length), j < k → ms[j].size ≠ 0)) (fun i => ms.length - (intOf i).toNat)
      case atStart => exact ⟨0, by omega, rfl, fun j _ h => by omega⟩
      case round =>
        obtain ⟨k, hk, rfl, hv⟩ := hrel
        by_cases hlt : k < ms.length
        · have hc := H4.out k hlt
          by_cases hz : ms[k].size = 0
          · have e1 : ms[k].toList = [] := by rw [ByteArray.toList_eq]; exact Array.toList_eq_nil_iff.2 (Array.eq_empty_of_size_eq_zero hz)
            have hr2 : chk ls ms = 11 := by
              rw [HR.out, if_pos]
              rw [List.any_eq_true]
              exact ⟨ms[k], List.getElem_mem hlt, by simpa using hz⟩
            have HR2 := Lib.hid hr2; clear hr2 hz
            go_wp2_with fail
            go_ret
            exact ⟨ret_int HR2.out.symm, hB⟩
          · have e1 : ms[k].toList = [] → False := fun e => hz (by
              rw [ByteArray.toList_eq] at e
              show ms[k].data.size = 0
              rw [← Array.length_toList, e]; rfl)
            have e2 : ms[k].toList.isEmpty = false := by
              cases hh : ms[k].toList with
              | nil => exact (e1 hh).elim
              | cons a l => rfl
            have HZ := Lib.hid hz; clear hz
            go_wp2_with fail
            go_round
            case rel => exact ⟨k + 1, by omega, by go_num, fun j hj hjk => by
              by_cases e : j = k
              · subst e; exact HZ.out
              · exact hv.out j hj (by omega)⟩
            case measure => simp [intOf]; omega
        · obtain rfl : k = ms.length := by omega
          have hr2 : chk ls ms = 0 := by
            rw [HR.out, if_neg]
            rw [List.any_eq_true]
            rintro ⟨x, hx, hx2⟩
            obtain ⟨j, hj, rfl⟩ := List.mem_iff_getElem.1 hx
            exact hv.out j hj hj (by simpa using hx2)
          have HR2 := Lib.hid hr2; clear hr2
          go_wp2_with fail
          go_ret
          exact ⟨ret_int HR2.out.symm, hB⟩
end Go.Proofs.YtdlbnioidfhhcaaGreat
