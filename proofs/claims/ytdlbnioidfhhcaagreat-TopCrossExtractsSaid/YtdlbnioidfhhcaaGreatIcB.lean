import Derived.Test.YtdlbnioidfhhcaaGreatIcA
/- intcommit: the closures 2 to 6 of Equal. -/
namespace Go.Proofs.YtdlbnioidfhhcaaGreat
open Go.RowKit Num
set_option maxRecDepth 20000
set_option linter.unusedVariables false
/-- the error of a key of a group of unknown order -/
def PK.u (k : PK) : Int := if k.e = 0 then (if emB k.O = true then 0 else 10) else k.e
theorem icheckU (M O G H : ByteArray) (w : World) :
    Calls Tryz.prog 19 #[.agg #[.string M, .string O, .string G, .string H]] w fun e w' => e = .returned (.int .i64 (PK.u ⟨M, O, G, H⟩)) ∧ Below w.heap.size w w' := icheck_any M O G H w
theorem eqc2_any (pm : Nat) (M O G H : ByteArray) (w : World) (hY : KYB w pm M O G H) :
    Calls Tryz.prog 16 #[.pointer (some ⟨pm, 0, none⟩)] w fun e w' => e = .returned (.int .i64 (PK.e ⟨M, O, G, H⟩)) ∧ Below w.heap.size w w' := by
  have c0 := hY.c0
  have c1 := hY.c1
  have c2 := hY.c2
  have c3 := hY.c3
  have HC := Lib.hid (fun w' => pcheck_any M O G H w')
  generalize PK.e ⟨M, O, G, H⟩ = E at HC ⊢
  clear hY
  go_enter Tryz.func16, Tryz.ntmps16
  go_wp2_with fail
  refine (HC.out _).mono ?_; rintro e w1 ⟨rfl, b1⟩
  go_wp2_with fail
  go_ret
  exact ⟨rfl, b1⟩
/-- the error of the third closure -/
def tyE (O : ByteArray) (k : PK) : Int := if emB O = true then 10 else k.u
theorem eqc3_any (pm pw : Nat) (M O G H M' O' G' H' : ByteArray) (w : World) (hY : KYB w pm M O G H) (hZ : KYB w pw M' O' G' H') :
    Calls Tryz.prog 18 #[.pointer (some ⟨pm, 0, none⟩), .pointer (some ⟨pw, 0, none⟩)] w fun e w' => e = .returned (.int .i64 (tyE O ⟨M', O', G', H'⟩)) ∧ Below w.heap.size w w' := by
  have c1 := hY.c1
  have d0 := hZ.c0
  have d1 := hZ.c1
  have d2 := hZ.c2
  have d3 := hZ.c3
  have HC := Lib.hid (fun w' => icheckU M' O' G' H' w')
  unfold tyE
  generalize PK.u ⟨M', O', G', H'⟩ = E at HC ⊢
  clear hY hZ
  cases h1 : emB O
  · have e1 := h1
    unfold emB at e1
    go_enter Tryz.func18, Tryz.ntmps18
    go_wp2_with fail
    refine (HC.out _).mono ?_; rintro e w1 ⟨rfl, b1⟩
    go_wp2_with fail
    go_ret
    exact ⟨by simp, b1⟩
  · have e1 := h1
    unfold emB at e1
    go_enter Tryz.func18, Tryz.ntmps18
    go_wp2_with fail
    go_ret
    exact ⟨by simp, Below.refl _ _⟩
theorem one_NS (w : World) (x : ByteArray) : NS (w.alloc (.cells #[.string x] 22)) (some ⟨w.heap.size, 0, none⟩) [x] := fun k hk => by
  have h : (w.alloc (.cells #[.string x] 22)).heap[w.heap.size]? = _ := heap_alloc_new w _
  match k, hk with
  | 0, _ => exact ⟨_, 0, rfl, by rw [Lib.cell_of_heap h]; rfl⟩
theorem eqc4_any (pm pa : Nat) (M O G H x : ByteArray) (w : World) (hY : KYB w pm M O G H) (hx : w.cell? ⟨pa, 0, none⟩ = some (.string x)) :
    Calls Tryz.prog 20 #[.pointer (some ⟨pm, 0, none⟩), .pointer (some ⟨pa, 0, none⟩)] w fun e w' => e = .returned (.int .i64 (if hasB M O x = true then 0 else 13)) ∧ Below w.heap.size w w' := by
  have c0 := hY.c0
  have c1 := hY.c1
  have c2 := hY.c2
  have c3 := hY.c3
  have bN := (Below.refl _ w).alloc (Nat.le_refl _) (.cells #[.string x] 22)
  have HC := Lib.hid (ielements_one M O G H x _ 1 _ (one_NS w x))
  obtain ⟨E, hE⟩ : ∃ E : Int, (if hasB M O x = true then 0 else 13) = E := ⟨_, rfl⟩
  rw [hE] at HC ⊢
  clear hY hE
  go_enter Tryz.func20, Tryz.ntmps20
  go_wp2_with fail
  refine HC.out.mono ?_; rintro e w1 ⟨rfl, b1⟩
  have hb := bN.trans (b1.mono bN.size)
  go_wp2_with fail
  go_ret
  exact ⟨rfl, hb⟩
theorem eqc5_any (pm pa : Nat) (M O G H x : ByteArray) (w : World) (hY : KYB w pm M O G H) (hx : w.cell? ⟨pa, 0, none⟩ = some (.string x)) :
    Calls Tryz.prog 22 #[.pointer (some ⟨pm, 0, none⟩), .pointer (some ⟨pa, 0, none⟩)] w fun e w' => e = .returned (.int .i64 (if hasB M O x = true then 0 else 13)) ∧ Below w.heap.size w w' := by
  have c0 := hY.c0
  have c1 := hY.c1
  have c2 := hY.c2
  have c3 := hY.c3
  have bN := (Below.refl _ w).alloc (Nat.le_refl _) (.cells #[.string x] 22)
  have HC := Lib.hid (ielements_one M O G H x _ 1 _ (one_NS w x))
  obtain ⟨E, hE⟩ : ∃ E : Int, (if hasB M O x = true then 0 else 13) = E := ⟨_, rfl⟩
  rw [hE] at HC ⊢
  clear hY hE
  go_enter Tryz.func22, Tryz.ntmps22
  go_wp2_with fail
  refine HC.out.mono ?_; rintro e w1 ⟨rfl, b1⟩
  have hb := bN.trans (b1.mono bN.size)
  go_wp2_with fail
  go_ret
  exact ⟨rfl, hb⟩
theorem eqc6_any (pv pr : Nat) (s t : ByteArray) (w : World) (hs : w.cell? ⟨pv, 0, none⟩ = some (.string s)) (ht : w.cell? ⟨pr, 0, none⟩ = some (.string t)) :
    Calls Tryz.prog 23 #[.pointer (some ⟨pv, 0, none⟩), .pointer (some ⟨pr, 0, none⟩)] w fun e w' => e = .returned (.int .i64 (if emB s = true ∨ emB t = true then 2 else 0)) ∧ Below w.heap.size w w' := by
  have HC := Lib.hid (fun w' => iready_any s t w')
  obtain ⟨E, hE⟩ : ∃ E : Int, (if emB s = true ∨ emB t = true then 2 else 0) = E := ⟨_, rfl⟩
  rw [hE] at HC ⊢
  clear hE
  go_enter Tryz.func23, Tryz.ntmps23
  go_wp2_with fail
  refine (HC.out _).mono ?_; rintro e w1 ⟨rfl, b1⟩
  go_wp2_with fail
  go_ret
  exact ⟨rfl, b1⟩
end Go.Proofs.YtdlbnioidfhhcaaGreat
