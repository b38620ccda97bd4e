import Derived.Test.YtapmeiaonnnmdaaGreatDoorTtB
/- coins.Signed at a tape with one value; smallInt, intKey. -/
namespace Go.Proofs.YtapmeiaonnnmdaaGreatDoor
open Go.RowKit Num
set_option maxRecDepth 20000
set_option linter.unusedVariables false
theorem results_itt {fn : Func} {p q u : Tmp} {ty ty' : TypeId} (h : fn.results = #[.cell p ty, .cell q ty', .tmp u]) (tmps : Array Value) (P : Program) (w : World) :
    (results fn tmps).run P w = ((asAddr (tmps.getD p undef)).run P w).andThen fun a w1 => ((loadVar ty a).run P w1).andThen fun v w2 => ((asAddr (tmps.getD q undef)).run P w2).andThen fun b w3 => ((loadVar ty' b).run P w3).andThen fun v' w4 => .ok (.tuple #[v, v', tmps.getD u undef]) w4 := by
  simp only [results, h]
  simp [Sem.run_bind, Result.andThen]
/-- an integer in a variable, a tape in a variable, an error -/
theorem bodyPost_itt {fn : Func} {R : Ending → World → Prop} {p q u : Tmp} {b c : Nat} {a : Act} {W : World} {v0 v1 v2 i0 i1 vu : Value} (h : fn.results = #[.cell p 36, .cell q 63, .tmp u]) (hp : a.tmps.getD p undef = .pointer (some ⟨c, 0, none⟩)) (hq : a.tmps.getD q undef = .pointer (some ⟨b, 0, none⟩)) (hu : a.tmps.getD u undef = vu)
    (hc : W.heap[c]? = some (.cells #[i0, i1] 36 (0, 0))) (hb : TPB W b v0 v1 v2) (hd : a.defers = []) (hR : R (.returned (.tuple #[.agg #[i0, i1], .agg #[v0, v1, v2], vu])) W) : bodyPost Tryz.prog fn R Exit.ret a W := by
  refine bodyPost_ret (v := .tuple #[.agg #[i0, i1], .agg #[v0, v1, v2], vu]) (w := W) ?_ hd hR
  rw [results_itt h, hp, hq, hu]
  simp [asAddr, Result.andThen, run_loadVar_row W c _ _ _ (0, 0) _ hc Tryz.underlying36 rfl info_Int, run_loadVar_row W b _ _ _ (0, 0) _ hb Tryz.underlying63 rfl info_tape]
set_option maxHeartbeats 4000000 in
theorem signed_any (vo : Option Addr) (c : Nat) (x m : Nat) (w : World) (hL : NS w vo [enc x]) (hm : 1 ≤ m) (hm1 : m ≤ 10000) (hlt : x < 2 * m - 1) :
    Calls Tryz.prog 23 #[.agg #[.slice vo 1 c, .string ⟨#[]⟩, .int .i64 0], .string (enc m)] w fun e w' => ∃ no nc, e = .returned (.tuple #[.agg #[.bool (zb ((x : Int) - ((m : Int) - 1))), .string (zs ((x : Int) - ((m : Int) - 1)))], .agg #[.slice no 1 nc, .string ⟨#[]⟩, .int .i64 1], .int .i64 0]) ∧ Below w.heap.size w w' := by
  have hM := sN (n := m) (by omega)
  have hX := sN (n := x) (by omega)
  have HR := Lib.hid (fun w' (hb : Below w.heap.size w w') => tready_any vo 1 c [enc x] (enc m) w' (hL.keepL (cells_keepL hb (Nat.le_refl _))) rfl (by decide) (by simp [hX.valid]) hM.valid (emE (by omega)))
  have HA := Lib.hid (fun w' => Add_any (enc m) (enc m) m m w' hM hM)
  rw [(sF (n := m + m) (by omega)).1, (sF (n := m + m) (by omega)).2] at HA
  have HS := Lib.hid (fun w' => Sub_any (enc m) ⟨#[1]⟩ m 1 w' hM isI hm)
  have HO := Lib.hid (fun w' => Sub_any (enc (m + m)) ⟨#[1]⟩ (m + m) 1 w' (sN (by omega)) isI (by omega))
  have HD := Lib.hid (fun w' (hb : Below w.heap.size w w') => draw_one vo c (enc x) (enc (m + m - 1)) x (m + m - 1) w' (hL.keepL (cells_keepL hb (Nat.le_refl _))) hX (sN (by omega)) (by omega))
  have HZ := Lib.hid (fun w' => isub_z (x : Int) ((m - 1 : Nat) : Int) w' (sZ (by omega)) (sZ (by omega)) (sZ (by omega)))
  rw [zbN, zbN, zsN, zsN, show ((m - 1 : Nat) : Int) = (m : Int) - 1 by omega] at HZ
  clear hM hX hL hlt hm
  have hb1 := (Below.refl _ w).alloc (Nat.le_refl _) (.cells #[.slice vo 1 c, .string ⟨#[]⟩, .int .i64 0] 63)
  have hb2 := hb1.alloc hb1.size (.cells #[.bool false, .string ⟨#[]⟩] 36)
  have hb := hb2.alloc hb2.size (.cells #[.slice none 0 0, .string ⟨#[]⟩, .int .i64 0] 63)
  go_enter Tryz.func23, Tryz.ntmps23
  go_wp2_with fail
  have hP := ((TPB.new w (.slice vo 1 c) (.string ⟨#[]⟩) (.int .i64 0)).below (((Below.refl _ _).alloc (Nat.le_refl _) (.cells #[.bool false, .string ⟨#[]⟩] 36)).alloc (by simp only [World.size_alloc]; omega) (.cells #[.slice none 0 0, .string ⟨#[]⟩, .int .i64 0] 63)) (by simp only [World.size_alloc]; omega))
  have hI := (RBox.new (w.alloc (.cells #[.slice vo 1 c, .string ⟨#[]⟩, .int .i64 0] 63))).below ((Below.refl _ _).alloc (Nat.le_refl _) (.cells #[.slice none 0 0, .string ⟨#[]⟩, .int .i64 0] 63)) (by simp only [World.size_alloc]; omega)
  have hT := TPB.new ((w.alloc (.cells #[.slice vo 1 c, .string ⟨#[]⟩, .int .i64 0] 63)).alloc (.cells #[.bool false, .string ⟨#[]⟩] 36)) (.slice none 0 0) (.string ⟨#[]⟩) (.int .i64 0)
  simp only [World.size_alloc] at hI hT
  generalize hw0 : World.alloc (World.alloc (World.alloc w _) _) _ = W0 at hP hI hT hb ⊢
  clear hw0 hb1 hb2
  have c0 := hP.c0
  have c1 := hP.c1
  have c2 := hP.c2
  refine (HR.out _ hb).mono ?_; rintro e w1 ⟨rfl, b1⟩
  replace hP := hP.below b1 hP.lt
  replace hI := hI.below b1 hI.lt
  replace hT := hT.below b1 hT.lt
  replace hb := hb.trans (b1.mono hb.size)
  clear c0 c1 c2 b1
  have c0 := hP.c0
  have c1 := hP.c1
  have c2 := hP.c2
  go_wp2_with fail
  refine (HA.out _).mono ?_; rintro e w2 ⟨rfl, b2⟩
  replace hP := hP.below b2 hP.lt
  replace hI := hI.below b2 hI.lt
  replace hT := hT.below b2 hT.lt
  replace hb := hb.trans (b2.mono hb.size)
  clear c0 c1 c2 b2
  go_wp2_with fail
  refine (HS.out _).mono ?_; rintro e w3 ⟨rfl, b3⟩
  replace hP := hP.below b3 hP.lt
  replace hI := hI.below b3 hI.lt
  replace hT := hT.below b3 hT.lt
  replace hb := hb.trans (b3.mono hb.size)
  clear b3
  go_wp2_with fail
  refine (HO.out _).mono ?_; rintro e w4 ⟨rfl, b4⟩
  replace hP := hP.below b4 hP.lt
  replace hI := hI.below b4 hI.lt
  replace hT := hT.below b4 hT.lt
  replace hb := hb.trans (b4.mono hb.size)
  clear b4
  have c0 := hP.c0
  have c1 := hP.c1
  have c2 := hP.c2
  go_wp2_with fail
  refine (HD.out _ hb).mono ?_; rintro e w5 ⟨no, nc, rfl, _, b5⟩
  replace hI := hI.below b5 hI.lt
  replace hT := hT.below b5 hT.lt
  replace hb := hb.trans (b5.mono hb.size)
  clear c0 c1 c2 b5 hP
  have hT5 := hT.lt
  replace hI := hI.below ((Below.refl _ w5).alloc (Nat.le_refl _) (.cells #[.slice no 1 nc, .string ⟨#[]⟩, .int .i64 1] 63)) hI.lt
  replace hT := hT.below ((Below.refl _ w5).alloc (Nat.le_refl _) (.cells #[.slice no 1 nc, .string ⟨#[]⟩, .int .i64 1] 63)) hT.lt
  have hQ := TPB.new w5 (.slice no 1 nc) (.string ⟨#[]⟩) (.int .i64 1)
  replace hb := hb.alloc hb.size (.cells #[.slice no 1 nc, .string ⟨#[]⟩, .int .i64 1] 63)
  go_wp2_with fail
  have hq : w.heap.size + 1 + 1 < w5.heap.size := hT5
  generalize w5.heap.size = q at hQ hq ⊢
  generalize w5.alloc _ = W6 at hI hT hQ hb ⊢
  refine (HZ.out _).mono ?_; rintro e w7 ⟨rfl, b7⟩
  replace hI := (hI.below b7 hI.lt).alloc (.cells #[.bool (zb ((x : Int) - ((m : Int) - 1))), .string (zs ((x : Int) - ((m : Int) - 1)))] 36)
  replace hT := (hT.below b7 hT.lt).below ((Below.refl _ w7).alloc (Nat.le_refl _) (.cells #[.bool (zb ((x : Int) - ((m : Int) - 1))), .string (zs ((x : Int) - ((m : Int) - 1)))] 36)) (hT.below b7 hT.lt).lt
  have hQ7 := (hQ.below b7 hQ.lt).lt
  replace hQ := (hQ.below b7 hQ.lt).below ((Below.refl _ w7).alloc (Nat.le_refl _) (.cells #[.bool (zb ((x : Int) - ((m : Int) - 1))), .string (zs ((x : Int) - ((m : Int) - 1)))] 36)) (hQ.below b7 hQ.lt).lt
  have hY := ZBox.new w7 ((x : Int) - ((m : Int) - 1))
  replace hb := (hb.trans (b7.mono hb.size)).alloc (hb.trans (b7.mono hb.size)).size (.cells #[.bool (zb ((x : Int) - ((m : Int) - 1))), .string (zs ((x : Int) - ((m : Int) - 1)))] 36)
  clear b7
  go_wp2_with fail
  have hr : q < w7.heap.size := hQ7
  generalize w7.heap.size = r at hY hr ⊢
  generalize w7.alloc _ = W8 at hI hT hQ hb hY ⊢
  have y0 := hY.c0
  have y1 := hY.c1
  have q0 := hQ.c0
  have q1 := hQ.c1
  have q2 := hQ.c2
  have i0 := hI.c0
  have i1 := hI.c1
  have fi0 := hI.f0
  have fi1 := hI.f1
  have t0 := hT.c0
  have t1 := hT.c1
  have t2 := hT.c2
  have ft0 := hT.f 0
  have ft1 := hT.f 1
  have ft2 := hT.f 2
  have n1 : q ≠ w.heap.size + 1 := by omega
  have n2 : q ≠ w.heap.size + 1 + 1 := by omega
  have n3 : r ≠ w.heap.size + 1 := by omega
  have n4 : r ≠ w.heap.size + 1 + 1 := by omega
  have n5 := n1.symm
  have n6 := n2.symm
  have n7 := n3.symm
  have n8 := n4.symm
  go_region
  go_wp2_with fail
  have hI9 := put2 (v0 := .bool (zb ((x : Int) - ((m : Int) - 1)))) (v1 := .string (zs ((x : Int) - ((m : Int) - 1)))) hI
  have hT9 : TPB ((W8.setCell ⟨w.heap.size + 1, 0, none⟩ (.bool (zb ((x : Int) - ((m : Int) - 1))))).setCell ⟨w.heap.size + 1, 1, none⟩ (.string (zs ((x : Int) - ((m : Int) - 1))))) (w.heap.size + 1 + 1) (.slice none 0 0) (.string ⟨#[]⟩) (.int .i64 0) := (put2_other W8 (w.heap.size + 1) _ _ (w.heap.size + 1 + 1) (by omega)).trans hT
  have hTA := hT9.put (v0 := .slice no 1 nc) (v1 := .string ⟨#[]⟩) (v2 := .int .i64 1)
  have hIA := (put3_other ((W8.setCell ⟨w.heap.size + 1, 0, none⟩ (.bool (zb ((x : Int) - ((m : Int) - 1))))).setCell ⟨w.heap.size + 1, 1, none⟩ (.string (zs ((x : Int) - ((m : Int) - 1))))) (w.heap.size + 1 + 1) (.slice no 1 nc) (.string ⟨#[]⟩) (.int .i64 1) (w.heap.size + 1) (by omega)).trans hI9
  refine bodyPost_itt rfl rfl rfl rfl hIA hTA rfl ?_
  exact ⟨no, nc, rfl, ((((((hb.setCell (p := ⟨w.heap.size + 1, 0, none⟩) (by simp) _).setCell (p := ⟨w.heap.size + 1, 1, none⟩) (by simp) _).setCell (p := ⟨w.heap.size + 1 + 1, 0, none⟩) (by simp; omega) _).setCell (p := ⟨w.heap.size + 1 + 1, 1, none⟩) (by simp; omega) _).setCell (p := ⟨w.heap.size + 1 + 1, 2, none⟩) (by simp; omega) _)).drew⟩
end Go.Proofs.YtapmeiaonnnmdaaGreatDoor
