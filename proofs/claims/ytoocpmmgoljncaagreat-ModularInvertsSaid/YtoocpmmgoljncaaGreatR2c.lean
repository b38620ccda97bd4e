/- The reference of layer 2: DivMod, Mod. -/
import Derived.Test.YtoocpmmgoljncaaGreatR2
import Derived.Test.YtoocpmmgoljncaaGreatPow
namespace Go.Proofs.YtoocpmmgoljncaaGreat
open Go.RowKit Num
set_option maxRecDepth 20000
set_option linter.unusedVariables false
theorem results_ctt {fn : Func} {p u v : Tmp} (h : fn.results = #[.cell p 24, .tmp u, .tmp v]) (tmps : Array Value) (P : Program) (w : World) :
    (results fn tmps).run P w = ((asAddr (tmps.getD p undef)).run P w).andThen fun a w1 => ((loadVar 24 a).run P w1).andThen fun x w2 => .ok (.tuple #[x, tmps.getD u undef, tmps.getD v undef]) w2 := by
  simp only [results, h]
  simp [Sem.run_bind, Result.andThen]
theorem bodyPost_ctt {fn : Func} {R : Ending → World → Prop} {p u v : Tmp} {a : Act} {W : World} {b : Nat} {x y v0 v1 : Value} (h : fn.results = #[.cell p 24, .tmp u, .tmp v])
    (hp : a.tmps.getD p undef = .pointer (some ⟨b, 0, none⟩)) (hu : a.tmps.getD u undef = x) (hv : a.tmps.getD v undef = y)
    (hb : W.heap[b]? = some (.cells #[v0, v1] 24 (0, 0))) (hd : a.defers = []) (hR : R (.returned (.tuple #[.agg #[v0, v1], x, y])) W) : bodyPost Tryz.prog fn R Exit.ret a W := by
  refine bodyPost_ret (v := .tuple #[.agg #[v0, v1], x, y]) (w := W) ?_ hd hR
  rw [results_ctt h, hp, hu, hv]
  simp [asAddr, Result.andThen, run_loadVar_row W b _ _ _ (0, 0) _ hb Tryz.underlying24 rfl info_Int]
/-- what DivMod returns: the Euclidean quotient and remainder -/
def DmR (x : Int) (m : Nat) (w : World) (e : Ending) (w' : World) : Prop :=
  ∃ (q : Int) (r : Nat), e = .returned (.tuple #[.agg #[.bool (zb q), .string (zs q)], .string (enc r), .int .i64 0]) ∧ x = q * m + r ∧ r < m ∧ ZOk q ∧ q.natAbs ≤ x.natAbs ∧ Below w.heap.size w w'
namespace Num
theorem dm_pos {x : Int} {m : Nat} (h0 : 0 < m) (hx : 0 ≤ x) : x = ((x.natAbs / m : Nat) : Int) * m + ((x.natAbs % m : Nat) : Int) := by
  have h := Nat.div_add_mod x.natAbs m
  have h2 : ((m * (x.natAbs / m) + x.natAbs % m : Nat) : Int) = (x.natAbs : Nat) := by rw [h]
  rw [Int.natCast_add, Int.natCast_mul, Int.mul_comm] at h2
  omega
theorem dm_neg0 {x : Int} {m : Nat} (h0 : 0 < m) (hx : x < 0) (hr : x.natAbs % m = 0) : x = -((x.natAbs / m : Nat) : Int) * m + ((0 : Nat) : Int) := by
  have h := Nat.div_add_mod x.natAbs m
  have h2 : ((m * (x.natAbs / m) + x.natAbs % m : Nat) : Int) = (x.natAbs : Nat) := by rw [h]
  rw [Int.natCast_add, Int.natCast_mul, Int.mul_comm, hr] at h2
  rw [Int.neg_mul]
  omega
theorem dm_neg1 {x : Int} {m : Nat} (h0 : 0 < m) (hx : x < 0) (hr : 0 < x.natAbs % m) : x = -((x.natAbs / m + 1 : Nat) : Int) * m + ((m - x.natAbs % m : Nat) : Int) ∧ x.natAbs / m + 1 ≤ x.natAbs := by
  have h := Nat.div_add_mod x.natAbs m
  have hlt := Nat.mod_lt x.natAbs h0
  have h2 : ((m * (x.natAbs / m) + x.natAbs % m : Nat) : Int) = (x.natAbs : Nat) := by rw [h]
  rw [Int.natCast_add, Int.natCast_mul, Int.mul_comm] at h2
  refine ⟨?_, ?_⟩
  · rw [Int.natCast_add, Int.neg_mul, Int.add_mul]
    omega
  · rcases Nat.eq_zero_or_pos (x.natAbs / m) with h3 | h3
    · omega
    · have : x.natAbs / m ≤ m * (x.natAbs / m) := Nat.le_mul_of_pos_left _ h0
      omega
end Num
/-- two boxed integers and an empty result -/
theorem box3' (w : World) (a : Bool) (s : ByteArray) (b : Bool) (t : ByteArray) : ∃ w1, ((w.alloc (.cells #[.bool a, .string s] 24)).alloc (.cells #[.bool b, .string t] 24)).alloc (.cells #[.bool false, .string ⟨#[]⟩] 24) = w1 ∧
    IB w1 w.heap.size a s ∧ IB w1 (w.heap.size + 1) b t ∧ RBox w1 (w.heap.size + 1 + 1) ∧ w1.heap.size = w.heap.size + 3 ∧ Below w.heap.size w w1 := by
  have h2 := IB.new (w.alloc (.cells #[.bool a, .string s] 24)) b t
  have h3 := RBox.new ((w.alloc (.cells #[.bool a, .string s] 24)).alloc (.cells #[.bool b, .string t] 24))
  simp only [World.size_alloc] at h2 h3
  have e1 : ∀ (W : World) (o : Obj) (k : Nat), k < W.heap.size → (W.alloc o).heap[k]? = W.heap[k]? := fun W o k hk => Below.heap_alloc W o k hk
  refine ⟨_, rfl, ?_, ?_, h3, by simp, (((Below.refl _ w).alloc (Nat.le_refl _) _).alloc (by simp) _).alloc (by simp; omega) _⟩
  · exact (e1 _ _ _ (by simp; omega)).trans ((e1 _ _ _ (by simp)).trans (IB.new w a s))
  · exact (e1 _ _ _ (by simp)).trans h2
set_option maxHeartbeats 4000000 in
theorem ref2Dm_pos (n m : Nat) (w : World) (hn : blen n ≤ 128) (hm : blen m ≤ 128) (h0 : 0 < m) :
    Calls Tryz.prog 49 #[.agg #[.bool false, .string (enc n)], .agg #[.bool false, .string (enc m)]] w fun e w' => e = .returned (.tuple #[.agg #[.bool false, .string (enc (n / m))], .string (enc (n % m)), .int .i64 0]) ∧ Below w.heap.size w w' := by
  have HV2 := Lib.hid (show (validB (enc m) && !(false && (enc m).toList.isEmpty)) = true by rw [(IsN.mk' hm).valid]; rfl)
  have HM := Lib.hid (IsN.mk' hm)
  have HN := Lib.hid (IsN.mk' hn)
  have nm := (notEmpty_enc h0).1
  have nm' := toList_enc_nil h0
  have HV1 := Lib.hid (show (validB (enc n) && !(false && (enc n).toList.isEmpty)) = true by rw [(IsN.mk' hn).valid]; rfl)
  clear hn hm
  obtain ⟨w1, hw1, bx, by', br, hs1, b1⟩ := box3' w false (enc n) false (enc m)
  have k0 := bx.c0
  have k1 := bx.c1
  have k2 := by'.c0
  have k3 := by'.c1
  go_enter Tryz.func49, Tryz.ntmps49
  go_wp2_with fail
  clear k0 k1 k2 k3
  refine (ref2Valid_any false (enc n) _).mono ?_; rw [HV1.out]
  rintro e w2 ⟨rfl, b2⟩
  have x2 := bx.below b2 bx.lt
  have y2 := by'.below b2 by'.lt
  have r2 := br.below b2 br.lt
  replace b2 := bbl b1 b2
  clear bx by' br b1 hs1 hw1
  have k2 := y2.c0
  have k3 := y2.c1
  go_wp2_with fail
  clear k2 k3
  refine (ref2Valid_any false (enc m) _).mono ?_; rw [HV2.out]
  rintro e w3 ⟨rfl, b3⟩
  have x3 := x2.below b3 x2.lt
  have y3 := y2.below b3 y2.lt
  have r3 := r2.below b3 r2.lt
  replace b3 := bbl b2 b3
  clear x2 y2 r2 b2
  have c0 := x3.c0
  have c1 := x3.c1
  have c2 := y3.c0
  have c3 := y3.c1
  go_wp2_with fail
  clear c0 c1 c2 c3
  refine (refDivMod_any _ _ n m _ HN.out HM.out h0).mono ?_; rintro e w4 ⟨rfl, b4⟩
  have x4 := x3.below b4 x3.lt
  have y4 := y3.below b4 y3.lt
  have r4 := r3.below b4 r3.lt
  replace b4 := bbl b3 b4
  clear x3 y3 r3 b3
  have c0 := x4.c0
  have c1 := x4.c1
  have c2 := y4.c0
  have c3 := y4.c1
  go_wp2_with fail
  refine (refMake_any _ _ _).mono ?_; rintro e w8 ⟨rfl, b8⟩
  have r8 := r4.below b8 r4.lt
  replace b8 := bbl b4 b8
  have f0 := r8.f0
  have f1 := r8.f1
  have g0 := r8.c0
  have g1 := r8.c1
  clear c0 c1 c2 c3 x4 y4 r4 b4
  go_wp2_with fail
  refine bodyPost_ctt rfl rfl rfl rfl (put2 r8) rfl ⟨rfl, ?_⟩
  exact (b8.setCell (p := ⟨w.heap.size + 1 + 1, 0, none⟩) (by simp; omega) _).setCell (p := ⟨w.heap.size + 1 + 1, 1, none⟩) (by simp; omega) _
set_option maxHeartbeats 4000000 in
theorem ref2Dm_neg0 (n m : Nat) (w : World) (hn : blen n ≤ 128) (hm : blen m ≤ 128) (h0 : 0 < m) (hp : 0 < n) (hr : n % m = 0) :
    Calls Tryz.prog 49 #[.agg #[.bool true, .string (enc n)], .agg #[.bool false, .string (enc m)]] w fun e w' => e = .returned (.tuple #[.agg #[.bool true, .string (enc (n / m))], .string (enc 0), .int .i64 0]) ∧ Below w.heap.size w w' := by
  have HV2 := Lib.hid (show (validB (enc m) && !(false && (enc m).toList.isEmpty)) = true by rw [(IsN.mk' hm).valid]; rfl)
  have HM := Lib.hid (IsN.mk' hm)
  have HN := Lib.hid (IsN.mk' hn)
  have nm := (notEmpty_enc h0).1
  have nm' := toList_enc_nil h0
  have HV1 := Lib.hid (show (validB (enc n) && !(true && (enc n).toList.isEmpty)) = true by rw [(IsN.mk' hn).valid, toList_enc_nil hp]; rfl)
  have hq1 : 0 < n / m := by
    rcases Nat.eq_zero_or_pos (n / m) with h | h
    · have := Nat.div_add_mod n m; rw [h, hr] at this; omega
    · exact h
  have hq2 := toList_enc_nil hq1
  have HR := Lib.hid hr
  rw [enc_zero]
  have hp' := hp
  clear hn hm hr hq1 hp hp'
  obtain ⟨w1, hw1, bx, by', br, hs1, b1⟩ := box3' w true (enc n) false (enc m)
  have k0 := bx.c0
  have k1 := bx.c1
  have k2 := by'.c0
  have k3 := by'.c1
  go_enter Tryz.func49, Tryz.ntmps49
  go_wp2_with fail
  clear k0 k1 k2 k3
  refine (ref2Valid_any true (enc n) _).mono ?_; rw [HV1.out]
  rintro e w2 ⟨rfl, b2⟩
  have x2 := bx.below b2 bx.lt
  have y2 := by'.below b2 by'.lt
  have r2 := br.below b2 br.lt
  replace b2 := bbl b1 b2
  clear bx by' br b1 hs1 hw1
  have k2 := y2.c0
  have k3 := y2.c1
  go_wp2_with fail
  clear k2 k3
  refine (ref2Valid_any false (enc m) _).mono ?_; rw [HV2.out]
  rintro e w3 ⟨rfl, b3⟩
  have x3 := x2.below b3 x2.lt
  have y3 := y2.below b3 y2.lt
  have r3 := r2.below b3 r2.lt
  replace b3 := bbl b2 b3
  clear x2 y2 r2 b2
  have c0 := x3.c0
  have c1 := x3.c1
  have c2 := y3.c0
  have c3 := y3.c1
  go_wp2_with fail
  clear c0 c1 c2 c3
  refine (refDivMod_any _ _ n m _ HN.out HM.out h0).mono ?_; rw [HR.out, enc_zero]; rintro e w4 ⟨rfl, b4⟩
  have x4 := x3.below b4 x3.lt
  have y4 := y3.below b4 y3.lt
  have r4 := r3.below b4 r3.lt
  replace b4 := bbl b3 b4
  clear x3 y3 r3 b3
  have c0 := x4.c0
  have c1 := x4.c1
  have c2 := y4.c0
  have c3 := y4.c1
  go_wp2_with fail
  refine (refMake_any _ _ _).mono ?_; rintro e w8 ⟨rfl, b8⟩
  have r8 := r4.below b8 r4.lt
  replace b8 := bbl b4 b8
  have f0 := r8.f0
  have f1 := r8.f1
  have g0 := r8.c0
  have g1 := r8.c1
  clear c0 c1 c2 c3 x4 y4 r4 b4
  go_wp2_with fail
  refine bodyPost_ctt rfl rfl rfl rfl (put2 r8) rfl ⟨by first | rfl | (rw [hq2]; rfl), ?_⟩
  exact (b8.setCell (p := ⟨w.heap.size + 1 + 1, 0, none⟩) (by simp; omega) _).setCell (p := ⟨w.heap.size + 1 + 1, 1, none⟩) (by simp; omega) _
set_option maxHeartbeats 4000000 in
theorem ref2Dm_neg1 (n m : Nat) (w : World) (hn : blen n ≤ 128) (hm : blen m ≤ 128) (h0 : 0 < m) (hp : 0 < n) (hr : 0 < n % m) :
    Calls Tryz.prog 49 #[.agg #[.bool true, .string (enc n)], .agg #[.bool false, .string (enc m)]] w fun e w' => e = .returned (.tuple #[.agg #[.bool true, .string (enc (n / m + 1))], .string (enc (m - n % m)), .int .i64 0]) ∧ Below w.heap.size w w' := by
  have HV2 := Lib.hid (show (validB (enc m) && !(false && (enc m).toList.isEmpty)) = true by rw [(IsN.mk' hm).valid]; rfl)
  have HM := Lib.hid (IsN.mk' hm)
  have HN := Lib.hid (IsN.mk' hn)
  have nm := (notEmpty_enc h0).1
  have nm' := toList_enc_nil h0
  have HV1 := Lib.hid (show (validB (enc n) && !(true && (enc n).toList.isEmpty)) = true by rw [(IsN.mk' hn).valid, toList_enc_nil hp]; rfl)
  have hlt := Nat.mod_lt n h0
  have hq1 : n / m + 1 ≤ n := by
    rcases Nat.eq_zero_or_pos (n / m) with h | h
    · have := Nat.div_add_mod n m; rw [h] at this; omega
    · have := Nat.div_add_mod n m
      have : n / m ≤ m * (n / m) := Nat.le_mul_of_pos_left _ h0
      omega
  have nr := (notEmpty_enc hr).1
  have nr' := toList_enc_nil hr
  have hql : blen (n / m + 1) ≤ 128 := Nat.le_trans (blen_mono hq1) hn
  have HF := Lib.hid (And.intro (fitS_ok hql) (fitE_ok hql))
  have HQ := Lib.hid (IsN.mk' (Nat.le_trans (blen_mono (Nat.div_le_self n m)) hn))
  have HI := Lib.hid (IsN.mk' (show blen 1 ≤ 128 by decide))
  have HR := Lib.hid (IsN.mk' (Nat.le_trans (blen_mono (Nat.le_of_lt hlt)) hm))
  have HLE := Lib.hid (Nat.le_of_lt hlt)
  have hq2 := toList_enc_nil (Nat.succ_pos (n / m))
  clear hn hm hr hq1 hp hlt hql
  obtain ⟨w1, hw1, bx, by', br, hs1, b1⟩ := box3' w true (enc n) false (enc m)
  have k0 := bx.c0
  have k1 := bx.c1
  have k2 := by'.c0
  have k3 := by'.c1
  go_enter Tryz.func49, Tryz.ntmps49
  go_wp2_with fail
  clear k0 k1 k2 k3
  refine (ref2Valid_any true (enc n) _).mono ?_; rw [HV1.out]
  rintro e w2 ⟨rfl, b2⟩
  have x2 := bx.below b2 bx.lt
  have y2 := by'.below b2 by'.lt
  have r2 := br.below b2 br.lt
  replace b2 := bbl b1 b2
  clear bx by' br b1 hs1 hw1
  have k2 := y2.c0
  have k3 := y2.c1
  go_wp2_with fail
  clear k2 k3
  refine (ref2Valid_any false (enc m) _).mono ?_; rw [HV2.out]
  rintro e w3 ⟨rfl, b3⟩
  have x3 := x2.below b3 x2.lt
  have y3 := y2.below b3 y2.lt
  have r3 := r2.below b3 r2.lt
  replace b3 := bbl b2 b3
  clear x2 y2 r2 b2
  have c0 := x3.c0
  have c1 := x3.c1
  have c2 := y3.c0
  have c3 := y3.c1
  go_wp2_with fail
  clear c0 c1 c2 c3
  refine (refDivMod_any _ _ n m _ HN.out HM.out h0).mono ?_; rintro e w4 ⟨rfl, b4⟩
  have x4 := x3.below b4 x3.lt
  have y4 := y3.below b4 y3.lt
  have r4 := r3.below b4 r3.lt
  replace b4 := bbl b3 b4
  clear x3 y3 r3 b3
  have c0 := x4.c0
  have c1 := x4.c1
  have c2 := y4.c0
  have c3 := y4.c1
  go_wp2_with fail
  clear c0 c1 c2 c3
  refine (refOf_any 1 _ (by omega)).mono ?_; rintro e w5 ⟨rfl, b5⟩
  have x5 := x4.below b5 x4.lt
  have y5 := y4.below b5 y4.lt
  have r5 := r4.below b5 r4.lt
  replace b5 := bbl b4 b5
  clear x4 y4 r4 b4
  go_wp2_with fail
  refine (refAdd_any _ _ (n / m) 1 _ HQ.out HI.out).mono ?_; rw [HF.out.1, HF.out.2]; rintro e w6 ⟨rfl, b6⟩
  have x6 := x5.below b6 x5.lt
  have y6 := y5.below b6 y5.lt
  have r6 := r5.below b6 r5.lt
  replace b6 := bbl b5 b6
  clear x5 y5 r5 b5
  have c0 := x6.c0
  have c1 := x6.c1
  have c2 := y6.c0
  have c3 := y6.c1
  go_wp2_with fail
  clear c0 c1 c2 c3
  refine (refSub_any _ _ m (n % m) _ HM.out HR.out HLE.out).mono ?_; rintro e w7 ⟨rfl, b7⟩
  have x4 := x6.below b7 x6.lt
  have y4 := y6.below b7 y6.lt
  have r4 := r6.below b7 r6.lt
  have b4 := bbl b6 b7
  clear x6 y6 r6 b6 b7
  have c0 := x4.c0
  have c1 := x4.c1
  have c2 := y4.c0
  have c3 := y4.c1
  go_wp2_with fail
  refine (refMake_any _ _ _).mono ?_; rintro e w8 ⟨rfl, b8⟩
  have r8 := r4.below b8 r4.lt
  replace b8 := bbl b4 b8
  have f0 := r8.f0
  have f1 := r8.f1
  have g0 := r8.c0
  have g1 := r8.c1
  clear c0 c1 c2 c3 x4 y4 r4 b4
  go_wp2_with fail
  refine bodyPost_ctt rfl rfl rfl rfl (put2 r8) rfl ⟨by first | rfl | (rw [hq2]; rfl), ?_⟩
  exact (b8.setCell (p := ⟨w.heap.size + 1 + 1, 0, none⟩) (by simp; omega) _).setCell (p := ⟨w.heap.size + 1 + 1, 1, none⟩) (by simp; omega) _
theorem ref2DivMod_z (x : Int) (m : Nat) (w : World) (hx : ZOk x) (hm : blen m ≤ 128) (h0 : 0 < m) :
    Calls Tryz.prog 49 #[.agg #[.bool (zb x), .string (zs x)], .agg #[.bool false, .string (enc m)]] w (DmR x m w) := by
  have hs : zs x = enc x.natAbs := rfl
  rw [hs]
  by_cases hp : 0 ≤ x
  · have hb : zb x = false := decide_eq_false (by omega)
    rw [hb]
    refine (ref2Dm_pos x.natAbs m w hx hm h0).mono ?_
    rintro e w' ⟨rfl, hB⟩
    refine ⟨((x.natAbs / m : Nat) : Int), x.natAbs % m, ?_, dm_pos h0 hp, Nat.mod_lt _ h0, ?_, ?_, hB⟩
    · rw [show zb ((x.natAbs / m : Nat) : Int) = false from decide_eq_false (Int.not_lt.2 (Int.natCast_nonneg _))]; rfl
    · exact Nat.le_trans (blen_mono (Nat.div_le_self _ _)) hx
    · rw [Int.natAbs_natCast]; exact Nat.div_le_self _ _
  · have hb : zb x = true := decide_eq_true (by omega)
    rw [hb]
    have hp' : x < 0 := by omega
    have hn : 0 < x.natAbs := by omega
    rcases Nat.eq_zero_or_pos (x.natAbs % m) with hr | hr
    · refine (ref2Dm_neg0 x.natAbs m w hx hm h0 hn hr).mono ?_
      rintro e w' ⟨rfl, hB⟩
      have hq : 0 < x.natAbs / m := by
        rcases Nat.eq_zero_or_pos (x.natAbs / m) with h | h
        · have := Nat.div_add_mod x.natAbs m; rw [h, hr] at this; omega
        · exact h
      have ha : (-((x.natAbs / m : Nat) : Int)).natAbs = x.natAbs / m := by rw [Int.natAbs_neg, Int.natAbs_natCast]
      refine ⟨-((x.natAbs / m : Nat) : Int), 0, ?_, dm_neg0 h0 hp' hr, h0, ?_, ?_, hB⟩
      · rw [show zb (-((x.natAbs / m : Nat) : Int)) = true from decide_eq_true (Int.neg_neg_of_pos (Int.natCast_pos.2 hq)), show zs (-((x.natAbs / m : Nat) : Int)) = enc (x.natAbs / m) from congrArg enc ha]
      · exact Nat.le_trans (blen_mono (by rw [ha]; exact Nat.div_le_self _ _)) hx
      · rw [ha]; exact Nat.div_le_self _ _
    · refine (ref2Dm_neg1 x.natAbs m w hx hm h0 hn hr).mono ?_
      rintro e w' ⟨rfl, hB⟩
      have ha : (-((x.natAbs / m + 1 : Nat) : Int)).natAbs = x.natAbs / m + 1 := by rw [Int.natAbs_neg, Int.natAbs_natCast]
      obtain ⟨h1, h2⟩ := dm_neg1 h0 hp' hr
      refine ⟨-((x.natAbs / m + 1 : Nat) : Int), m - x.natAbs % m, ?_, h1, by omega, ?_, ?_, hB⟩
      · rw [show zb (-((x.natAbs / m + 1 : Nat) : Int)) = true from decide_eq_true (Int.neg_neg_of_pos (Int.natCast_pos.2 (Nat.succ_pos _))), show zs (-((x.natAbs / m + 1 : Nat) : Int)) = enc (x.natAbs / m + 1) from congrArg enc ha]
      · exact Nat.le_trans (blen_mono (by rw [ha]; exact h2)) hx
      · rw [ha]; exact h2
end Go.Proofs.YtoocpmmgoljncaaGreat
