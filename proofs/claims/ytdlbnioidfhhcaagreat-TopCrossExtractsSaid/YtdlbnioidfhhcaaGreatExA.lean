import Derived.Test.YtdlbnioidfhhcaaGreatExP
/- integer.Divide; extractor: kind, differences, quotients. -/
namespace Go.Proofs.YtdlbnioidfhhcaaGreat
open Go.RowKit Num
set_option maxRecDepth 20000
set_option linter.unusedVariables false
/-- an integer or an error -/
def IEQ (w : World) : Ending → World → Prop := fun e w' => ∃ (g : Bool) (s : ByteArray) (E : Int), e = .returned (.tuple #[.agg #[.bool g, .string s], .int .i64 E]) ∧ (E = 0 → ivB (g, s) = true ∧ s.size ≤ 25) ∧ Below w.heap.size w w'
theorem IEQ.bad {w w' : World} {e : Ending} {g : Bool} {s : ByteArray} {E : Int} (h : E ≠ 0) (he : e = .returned (.tuple #[.agg #[.bool g, .string s], .int .i64 E])) (hb : Below w.heap.size w w') : IEQ w e w' := ⟨g, s, E, he, fun h0 => absurd h0 h, hb⟩
theorem IEQ.mk {w w' : World} {e : Ending} {g : Bool} {s : ByteArray} {E : Int} (h : E = 0 → ivB (g, s) = true ∧ s.size ≤ 25) (he : e = .returned (.tuple #[.agg #[.bool g, .string s], .int .i64 E])) (hb : Below w.heap.size w w') : IEQ w e w' := ⟨g, s, E, he, h, hb⟩
/-- an integer or nothing -/
def IBQ (w : World) : Ending → World → Prop := fun e w' => ∃ (g : Bool) (s : ByteArray) (o : Bool), e = .returned (.tuple #[.agg #[.bool g, .string s], .bool o]) ∧ (o = true → ivB (g, s) = true ∧ s.size ≤ 25) ∧ Below w.heap.size w w'
theorem IBQ.mk {w w' : World} {e : Ending} {g : Bool} {s : ByteArray} {o : Bool} (h : o = true → ivB (g, s) = true ∧ s.size ≤ 25) (he : e = .returned (.tuple #[.agg #[.bool g, .string s], .bool o])) (hb : Below w.heap.size w w') : IBQ w e w' := ⟨g, s, o, he, h, hb⟩
theorem iv_made {b : Bool} {s : ByteArray} (h : validB s = true) : ivB (b && !s.toList.isEmpty, s) = true := by
  unfold ivB
  simp only [h, Bool.true_and]
  cases b <;> cases s.toList.isEmpty <;> rfl
theorem iv_pos {s : ByteArray} (h : validB s = true) : ivB (false, s) = true := by unfold ivB; simp [h]
theorem ibox3 (w : World) (g1 : Bool) (s1 : ByteArray) (g2 : Bool) (s2 : ByteArray) : ∃ W, ((w.alloc (.cells #[.bool g1, .string s1] 50)).alloc (.cells #[.bool g2, .string s2] 50)).alloc (.cells #[.bool false, .string ⟨#[]⟩] 50) = W ∧
    IBL W w.heap.size g1 s1 ∧ IBL W (w.heap.size + 1) g2 s2 ∧ RBox W (w.heap.size + 1 + 1) ∧ Below w.heap.size w W := by
  have h2 := IBL.new (w.alloc (.cells #[.bool g1, .string s1] 50)) g2 s2
  have h3 := RBox.new ((w.alloc (.cells #[.bool g1, .string s1] 50)).alloc (.cells #[.bool g2, .string s2] 50))
  rw [World.size_alloc] at h2
  rw [World.size_alloc, World.size_alloc] at h3
  exact ⟨_, rfl, ((IBL.new w g1 s1).alloc _).alloc _, h2.alloc _, h3, (((Below.refl _ w).alloc (Nat.le_refl _) _).alloc (by simp) _).alloc (by simp; omega) _⟩
theorem both_iv {p q : Bool × ByteArray} (hp : ivB p = true) (hq : ivB q = true) (w : World) : Calls Tryz.prog 75 #[.agg #[.bool p.1, .string p.2], .agg #[.bool q.1, .string q.2]] w fun e w' => e = .returned (.bool true) ∧ Below w.heap.size w w' := by
  obtain ⟨a1, a2, a3, _⟩ := zi_iv hp
  obtain ⟨b1, b2, b3, _⟩ := zi_iv hq
  have h := both_z (zi p) (zi q) w a3 b3
  rw [← a1, ← a2, ← b1, ← b2] at h
  exact h
set_option maxHeartbeats 4000000 in
theorem idivide_any (g1 g2 : Bool) (s1 s2 : ByteArray) (w : World) (h1 : ivB (g1, s1) = true) (h2 : ivB (g2, s2) = true) (hs : s1.size ≤ 25) :
    Calls Tryz.prog 49 #[.agg #[.bool g1, .string s1], .agg #[.bool g2, .string s2]] w (IEQ w) := by
  obtain ⟨w1, hw1, bx, by', br, b1⟩ := ibox3 w g1 s1 g2 s2
  have HB := Lib.hid (fun w' => both_iv h1 h2 w')
  have v1 : IsN s1 (nv s1) := isN_of_valid (by unfold ivB at h1; rw [Bool.and_eq_true] at h1; exact h1.1)
  have v2 : IsN s2 (nv s2) := isN_of_valid (by unfold ivB at h2; rw [Bool.and_eq_true] at h2; exact h2.1)
  have hs' : blen (nv s1) ≤ 25 := by rw [← v1.size]; exact hs
  have HD := Lib.hid (fun (h0 : 0 < nv s2) w' => DivMod_any s1 s2 (nv s1) (nv s2) w' v1 v2 h0)
  have HP := Lib.hid (fun (he : emB s2 = false) => em_pos v2 he)
  have hq : blen (nv s1 / nv s2) ≤ 25 := Nat.le_trans (blen_mono (Nat.div_le_self _ _)) hs'
  have HQ := Lib.hid (show (enc (nv s1 / nv s2)).size ≤ 25 ∧ validB (enc (nv s1 / nv s2)) = true from ⟨by rw [size_enc]; exact hq, (IsN.mk' (by omega)).valid⟩)
  generalize enc (nv s1 / nv s2) = Q at HD HQ
  generalize enc (nv s1 % nv s2) = R at HD
  have k0 := bx.c0
  have k1 := bx.c1
  have k2 := by'.c0
  have k3 := by'.c1
  clear v1 v2 hs' hq h1 h2 hs
  go_enter Tryz.func49, Tryz.ntmps49
  go_wp2_with fail
  clear k0 k1 k2 k3
  refine (HB.out _).mono ?_; rintro e w2 ⟨rfl, b2⟩
  replace bx := bx.below b2 bx.lt
  replace by' := by'.below b2 by'.lt
  replace br := br.below b2 br.lt
  replace b1 := b1.trans (b2.mono b1.size)
  clear b2 hw1 HB
  have k1 := bx.c1
  have k3 := by'.c1
  rcases em_cases s2 with ⟨h1, rfl⟩ | ⟨h1, h2, h3⟩
  · have e0 := br.c0
    have e1 := br.c1
    have f0 := br.f0
    have f1 := br.f1
    go_wp2_with fail
    refine bodyPost_int2 rfl rfl rfl (put2 br) rfl ?_
    exact IEQ.bad (E := 11) (by decide) rfl ((b1.setCell (p := ⟨w.heap.size + 1 + 1, 0, none⟩) (by simp; omega) _).setCell (p := ⟨w.heap.size + 1 + 1, 1, none⟩) (by simp; omega) _)
  have HD2 := Lib.hid (HD.out (HP.out h1))
  clear HD HP h1
  go_wp2_with fail
  refine (HD2.out _).mono ?_; rintro e w3 ⟨rfl, b3⟩
  replace bx := bx.below b3 bx.lt
  replace by' := by'.below b3 by'.lt
  replace br := br.below b3 br.lt
  replace b1 := b1.trans (b3.mono b1.size)
  clear b3 HD2 k1 k3 h2 h3
  rcases em_cases R with ⟨h1, rfl⟩ | ⟨h1, h2, h3⟩
  rotate_left
  · have e0 := br.c0
    have e1 := br.c1
    have f0 := br.f0
    have f1 := br.f1
    go_wp2_with fail
    refine bodyPost_int2 rfl rfl rfl (put2 br) rfl ?_
    exact IEQ.bad (E := 1) (by decide) rfl ((b1.setCell (p := ⟨w.heap.size + 1 + 1, 0, none⟩) (by simp; omega) _).setCell (p := ⟨w.heap.size + 1 + 1, 1, none⟩) (by simp; omega) _)
  have k0 := bx.c0
  have k2 := by'.c0
  have HM := Lib.hid (fun (b : Bool) (w' : World) => made_any b Q w')
  cases g1 <;> cases g2
  all_goals
    go_wp2_with fail
    refine (HM.out _ _).mono ?_; rintro e w4 ⟨rfl, b4⟩
    replace br := br.below b4 br.lt
    replace b1 := b1.trans (b4.mono b1.size)
    have e0 := br.c0
    have e1 := br.c1
    have f0 := br.f0
    have f1 := br.f1
    go_wp2_with fail
    refine bodyPost_int2 rfl rfl rfl (put2 br) rfl ?_
    first
      | exact IEQ.mk (g := false) (fun _ => ⟨iv_pos HQ.out.2, HQ.out.1⟩) rfl ((b1.setCell (p := ⟨w.heap.size + 1 + 1, 0, none⟩) (by simp; omega) _).setCell (p := ⟨w.heap.size + 1 + 1, 1, none⟩) (by simp; omega) _)
      | exact IEQ.mk (g := !Q.toList.isEmpty) (fun _ => ⟨iv_made (b := true) HQ.out.2, HQ.out.1⟩) rfl ((b1.setCell (p := ⟨w.heap.size + 1 + 1, 0, none⟩) (by simp; omega) _).setCell (p := ⟨w.heap.size + 1 + 1, 1, none⟩) (by simp; omega) _)
theorem xkind_any (b : ByteArray) (w : World) : Calls Tryz.prog 30 #[.agg #[.string b]] w fun e w' => e = .returned (.int .i64 (kdI b)) ∧ Below w.heap.size w w' := by
  have hb := (Below.refl _ w).alloc (Nat.le_refl _) (.cells #[.string b] 77)
  have hV := VrB.new w b
  have c0 := hV.c0
  unfold kdI
  rcases em_cases b with ⟨h1, rfl⟩ | ⟨h1, h2, h3⟩
  · rw [if_pos h1]
    go_enter Tryz.func30, Tryz.ntmps30
    go_wp2_with fail
    go_ret
    exact ⟨rfl, hb⟩
  · rw [if_neg (by rw [h1]; decide)]
    go_enter Tryz.func30, Tryz.ntmps30
    go_wp2_with fail
    go_ret
    exact ⟨rfl, hb⟩
theorem mo_iv {ls : List ByteArray} {v : ByteArray} {n : Nat} (hv : v.size ≤ 8) (h : chk ls [v] = 0) : ivB (false, mo (chk ls [v]) (n % nv v)) = true ∧ (mo (chk ls [v]) (n % nv v)).size ≤ 25 := by
  obtain ⟨k1, k2⟩ := chk_inv h
  have v1 := k1 v (by simp)
  have v2 := k2 v (by simp)
  rw [h, mo_zero]
  have hb : blen (n % nv v) ≤ 8 := Nat.le_trans (blen_mono (Nat.le_of_lt (Nat.mod_lt _ v2))) (by rw [← v1.size]; exact hv)
  exact ⟨iv_pos (IsN.mk' (by omega)).valid, by rw [size_enc]; omega⟩
set_option maxHeartbeats 4000000 in
theorem mdiff_any (q : ByteArray) (g1 g2 : Bool) (s1 s2 : ByteArray) (w : World) (hq : q.size ≤ 8) :
    Calls Tryz.prog 45 #[.string q, .agg #[.bool g1, .string s1], .agg #[.bool g2, .string s2]] w (IEQ w) := by
  obtain ⟨w1, hw1, bx, by', br, b1⟩ := ibox3 w g1 s1 g2 s2
  have HS := Lib.hid (fun w' => ModSub_any s1 s2 q w')
  have HI := Lib.hid (fun (h : chk [s1, s2] [q] = 0) => mo_iv (n := nv s1 + (nv q - nv s2 % nv q)) hq h)
  generalize mo (chk [s1, s2] [q]) ((nv s1 + (nv q - nv s2 % nv q)) % nv q) = D at HS HI
  generalize chk [s1, s2] [q] = E at HS HI
  have k1 := bx.c1
  have k3 := by'.c1
  go_enter Tryz.func45, Tryz.ntmps45
  go_wp2_with fail
  refine (HS.out _).mono ?_; rintro e w2 ⟨rfl, b2⟩
  replace br := br.below b2 br.lt
  replace b1 := b1.trans (b2.mono b1.size)
  clear b2 hw1 k1 k3
  have e0 := br.c0
  have e1 := br.c1
  have f0 := br.f0
  have f1 := br.f1
  go_wp2_with fail
  refine bodyPost_int2 rfl rfl rfl (put2 br) rfl ?_
  exact IEQ.mk HI.out rfl ((b1.setCell (p := ⟨w.heap.size + 1 + 1, 0, none⟩) (by simp; omega) _).setCell (p := ⟨w.heap.size + 1 + 1, 1, none⟩) (by simp; omega) _)
theorem isub_iv {p q : Bool × ByteArray} (hp : ivB p = true) (hq : ivB q = true) (sp : p.2.size ≤ 24) (sq : q.2.size ≤ 24) (w : World) : Calls Tryz.prog 70 #[.agg #[.bool p.1, .string p.2], .agg #[.bool q.1, .string q.2]] w fun e w' => e = .returned (.tuple #[.agg #[.bool (zb (zi p - zi q)), .string (zs (zi p - zi q))], .int .i64 0]) ∧ Below w.heap.size w w' := by
  obtain ⟨a1, a2, a3, _⟩ := zi_iv hp
  obtain ⟨b1, b2, b3, _⟩ := zi_iv hq
  have l1 := zi_lt hp sp
  have l2 := zi_lt hq sq
  have l3 : (zi p - zi q).natAbs < 256 ^ 25 := by
    have e : (256 : Nat) ^ 25 = 256 * 256 ^ 24 := by rw [Nat.pow_succ]
    omega
  have h := isub_z (zi p) (zi q) w a3 b3 (Nat.le_trans ((blen_le_iff _ 25).2 l3) (by omega))
  rw [← a1, ← a2, ← b1, ← b2] at h
  exact h
theorem isub_sz {p q : Bool × ByteArray} (hp : ivB p = true) (hq : ivB q = true) (sp : p.2.size ≤ 24) (sq : q.2.size ≤ 24) : ivB (zb (zi p - zi q), zs (zi p - zi q)) = true ∧ (zs (zi p - zi q)).size ≤ 25 := by
  have l1 := zi_lt hp sp
  have l2 := zi_lt hq sq
  have l3 : (zi p - zi q).natAbs < 256 ^ 25 := by
    have e : (256 : Nat) ^ 25 = 256 * 256 ^ 24 := by rw [Nat.pow_succ]
    omega
  have l4 := (blen_le_iff _ 25).2 l3
  exact ⟨iv_zz (Nat.le_trans l4 (by omega)), by unfold zs; rw [size_enc]; exact l4⟩
set_option maxHeartbeats 4000000 in
theorem idiff_any (q : ByteArray) (g1 g2 : Bool) (s1 s2 : ByteArray) (w : World) (h1 : ivB (g1, s1) = true) (h2 : ivB (g2, s2) = true) (z1 : s1.size ≤ 24) (z2 : s2.size ≤ 24) :
    Calls Tryz.prog 46 #[.string q, .agg #[.bool g1, .string s1], .agg #[.bool g2, .string s2]] w (IEQ w) := by
  obtain ⟨w1, hw1, bx, by', br, b1⟩ := ibox3 w g1 s1 g2 s2
  have HS := Lib.hid (fun w' => isub_iv (p := (g1, s1)) (q := (g2, s2)) h1 h2 z1 z2 w')
  have HI := Lib.hid (isub_sz (p := (g1, s1)) (q := (g2, s2)) h1 h2 z1 z2)
  simp only at HS HI
  generalize zb (zi (g1, s1) - zi (g2, s2)) = G at HS HI
  generalize zs (zi (g1, s1) - zi (g2, s2)) = D at HS HI
  have k0 := bx.c0
  have k1 := bx.c1
  have k2 := by'.c0
  have k3 := by'.c1
  clear h1 h2 z1 z2
  go_enter Tryz.func46, Tryz.ntmps46
  go_wp2_with fail
  refine (HS.out _).mono ?_; rintro e w2 ⟨rfl, b2⟩
  replace br := br.below b2 br.lt
  replace b1 := b1.trans (b2.mono b1.size)
  clear b2 hw1 k0 k1 k2 k3
  have e0 := br.c0
  have e1 := br.c1
  have f0 := br.f0
  have f1 := br.f1
  go_wp2_with fail
  refine bodyPost_int2 rfl rfl rfl (put2 br) rfl ?_
  exact IEQ.mk (fun _ => HI.out) rfl ((b1.setCell (p := ⟨w.heap.size + 1 + 1, 0, none⟩) (by simp; omega) _).setCell (p := ⟨w.heap.size + 1 + 1, 1, none⟩) (by simp; omega) _)
set_option maxHeartbeats 4000000 in
theorem mquot_any (q : ByteArray) (g1 g2 : Bool) (s1 s2 : ByteArray) (w : World) (hq : q.size ≤ 8) :
    Calls Tryz.prog 28 #[.string q, .agg #[.bool g1, .string s1], .agg #[.bool g2, .string s2]] w (IBQ w) := by
  obtain ⟨w1, hw1, bx, by', br, b1⟩ := ibox3 w g1 s1 g2 s2
  have HV := Lib.hid (fun w' => Inverse_any s2 q w')
  generalize ivS s2 q = Y at HV
  generalize ivE s2 q = F at HV
  have HS := Lib.hid (fun w' => ModMul_any s1 Y q w')
  have HI := Lib.hid (fun (h : chk [s1, Y] [q] = 0) => mo_iv (n := nv s1 * nv Y) hq h)
  generalize mo (chk [s1, Y] [q]) (nv s1 * nv Y % nv q) = D at HS HI
  generalize chk [s1, Y] [q] = E at HS HI
  have k1 := bx.c1
  have k3 := by'.c1
  by_cases hF : F = 0
  rotate_left
  · have ht : (F != 0) = true := by simpa using hF
    clear hF
    go_enter Tryz.func28, Tryz.ntmps28
    go_wp2_with fail
    refine (HV.out _).mono ?_; rintro e w2 ⟨rfl, b2⟩
    replace br := br.below b2 br.lt
    replace b1 := b1.trans (b2.mono b1.size)
    clear b2 hw1 k1 k3
    have e0 := br.c0
    have e1 := br.c1
    have f0 := br.f0
    have f1 := br.f1
    go_wp2_with fail
    refine bodyPost_int2 rfl rfl rfl (put2 br) rfl ?_
    exact IBQ.mk (o := false) (fun h => by cases h) rfl ((b1.setCell (p := ⟨w.heap.size + 1 + 1, 0, none⟩) (by simp; omega) _).setCell (p := ⟨w.heap.size + 1 + 1, 1, none⟩) (by simp; omega) _)
  subst hF
  go_enter Tryz.func28, Tryz.ntmps28
  go_wp2_with fail
  refine (HV.out _).mono ?_; rintro e w2 ⟨rfl, b2⟩
  replace bx := bx.below b2 bx.lt
  replace br := br.below b2 br.lt
  replace b1 := b1.trans (b2.mono b1.size)
  clear b2 hw1 k1 k3
  have k1 := bx.c1
  go_wp2_with fail
  refine (HS.out _).mono ?_; rintro e w3 ⟨rfl, b3⟩
  replace br := br.below b3 br.lt
  replace b1 := b1.trans (b3.mono b1.size)
  clear b3 k1
  have e0 := br.c0
  have e1 := br.c1
  have f0 := br.f0
  have f1 := br.f1
  obtain ⟨o, ho⟩ : ∃ o, (E == 0) = o := ⟨_, rfl⟩
  have HO := Lib.hid (show o = true → E = 0 from fun h => by rw [h] at ho; simpa using ho)
  go_wp2_with fail
  refine bodyPost_int2 rfl rfl rfl (put2 br) rfl ?_
  exact IBQ.mk (o := o) (fun h => HI.out (HO.out h)) (by first | rfl | (rw [ho]; done) | (rw [← ho])) ((b1.setCell (p := ⟨w.heap.size + 1 + 1, 0, none⟩) (by simp; omega) _).setCell (p := ⟨w.heap.size + 1 + 1, 1, none⟩) (by simp; omega) _)
set_option maxHeartbeats 4000000 in
theorem iquot_any (q : ByteArray) (g1 g2 : Bool) (s1 s2 : ByteArray) (w : World) (h1 : ivB (g1, s1) = true) (h2 : ivB (g2, s2) = true) (z1 : s1.size ≤ 25) :
    Calls Tryz.prog 29 #[.string q, .agg #[.bool g1, .string s1], .agg #[.bool g2, .string s2]] w (IBQ w) := by
  obtain ⟨w1, hw1, bx, by', br, b1⟩ := ibox3 w g1 s1 g2 s2
  have HS := Lib.hid (fun w' => idivide_any g1 g2 s1 s2 w' h1 h2 z1)
  have k0 := bx.c0
  have k1 := bx.c1
  have k2 := by'.c0
  have k3 := by'.c1
  clear h1 h2 z1
  go_enter Tryz.func29, Tryz.ntmps29
  go_wp2_with fail
  refine (HS.out _).mono ?_; rintro e w2 ⟨G, D, E, rfl, hI, b2⟩
  have HI := Lib.hid hI
  replace br := br.below b2 br.lt
  replace b1 := b1.trans (b2.mono b1.size)
  clear b2 hw1 k0 k1 k2 k3 hI
  have hN := IBL.new w2 G D
  have bN := (Below.refl _ w2).alloc (Nat.le_refl _) (.cells #[.bool G, .string D] 50)
  replace br := br.below bN br.lt
  replace b1 := b1.trans (bN.mono b1.size)
  have n0 := hN.c0
  have n1 := hN.c1
  have e0 := br.c0
  have e1 := br.c1
  have f0 := br.f0
  have f1 := br.f1
  obtain ⟨o, ho⟩ : ∃ o, (E == 0) = o := ⟨_, rfl⟩
  have HO := Lib.hid (show o = true → E = 0 from fun h => by rw [h] at ho; simpa using ho)
  go_wp2_with fail
  refine bodyPost_int2 rfl rfl rfl (put2 br) rfl ?_
  exact IBQ.mk (o := o) (fun h => HI.out (HO.out h)) (by first | rfl | (rw [ho]; done) | (rw [← ho])) ((b1.setCell (p := ⟨w.heap.size + 1 + 1, 0, none⟩) (by simp; omega) _).setCell (p := ⟨w.heap.size + 1 + 1, 1, none⟩) (by simp; omega) _)
end Go.Proofs.YtdlbnioidfhhcaaGreat
