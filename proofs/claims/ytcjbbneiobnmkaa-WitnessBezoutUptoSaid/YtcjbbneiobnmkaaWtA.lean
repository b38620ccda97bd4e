import Derived.Test.YtcjbbneiobnmkaaWtH
import Derived.Test.YtcjbbneiobnmkaaZp
import Derived.Test.YtcjbbneiobnmkaaExtd
/- witness: product, exponents, Exponents. -/
namespace Go.Proofs.Ytcjbbneiobnmkaa
open Go.RowKit Num
set_option maxRecDepth 20000
set_option linter.unusedVariables false
theorem index_any (ao : Option Addr) (c n : Nat) (l : List ByteArray) (u : ByteArray) (w : World) (hl : NS w ao l) (hn : l.length = n) (h1 : n ≤ maxLen) :
    Calls Try.prog 39 #[.slice ao n c, .string u] w fun e w' => (∃ x : Int, e = .returned (.int .i64 x) ∧ (decide (0 ≤ x) = inB u l)) ∧ w = w' := by
  unfold maxLen at h1
  have HN := Lib.hid hn
  have HL := Lib.hid hl
  clear hn hl
  go_enter Try.func39, Try.ntmps39
  go_wp2_with fail
  go_loop [8] (fun i => ∃ k : Nat, k ≤ n ∧ i = .int .i64 k ∧ Hid (∀ j (hj : j < l.length), j < k → ¬ l[j].toList = u.toList)) (fun i => n - (intOf i).toNat)
  case atStart => exact ⟨0, by omega, rfl, fun j _ h => by omega⟩
  case round =>
    obtain ⟨k, hk, rfl, hv⟩ := hrel
    by_cases hlt : k < n
    · have hkl : k < l.length := by rw [HN.out]; exact hlt
      obtain ⟨b, off, rfl, hc⟩ := HL.out k hkl
      obtain ⟨X, hX⟩ : ∃ X, l[k] = X := ⟨_, rfl⟩
      rw [hX] at hc
      by_cases he : X.toList = u.toList
      · have t1 : (u.toList == X.toList) = true := by rw [he]; simp
        have t2 := he.symm
        have HR : Hid (inB u l = true) := List.any_eq_true.2 ⟨X, by rw [← hX]; exact List.getElem_mem hkl, decide_eq_true he⟩
        clear hX he hv
        go_wp2_with fail
        go_ret
        exact ⟨⟨_, rfl, by rw [HR.out]; exact decide_eq_true (by omega)⟩, rfl⟩
      · have t1 : (u.toList == X.toList) = false := by simp; exact fun h => he h.symm
        have t2 : ¬ (u.toList = X.toList) := fun h => he h.symm
        have HST : Hid (∀ j (hj : j < l.length), j < k + 1 → ¬ l[j].toList = u.toList) := fun j hj hjk => by
          by_cases e : j = k
          · subst e; rw [hX]; exact he
          · exact hv.out j hj (by omega)
        clear hX he hv
        go_wp2_with fail
        exact ⟨⟨k + 1, by omega, by go_num, HST⟩, by simp [intOf]; omega⟩
    · obtain rfl : k = n := by omega
      have HR : Hid (inB u l = false) := by
        show inB u l = false
        rw [Bool.eq_false_iff]
        intro h
        obtain ⟨x, hx, hd⟩ := List.any_eq_true.1 h
        obtain ⟨j, hj, rfl⟩ := List.mem_iff_getElem.1 hx
        exact hv.out j hj (by rw [HN.out] at hj; exact hj) (of_decide_eq_true hd)
      clear hv
      go_wp2_with fail
      go_ret
      exact ⟨⟨_, rfl, by rw [HR.out]; decide⟩, rfl⟩
theorem contains_any (ao : Option Addr) (c n : Nat) (l : List ByteArray) (u : ByteArray) (w : World) (hl : NS w ao l) (hn : l.length = n) (h1 : n ≤ maxLen) :
    Calls Try.prog 30 #[.slice ao n c, .string u] w fun e w' => e = .returned (.bool (inB u l)) ∧ w = w' := by
  have H := Lib.hid (fun w hl => index_any ao c n l u w hl hn h1)
  have HL := Lib.hid hl
  clear hl
  go_enter Try.func30, Try.ntmps30
  go_wp2_with fail
  refine (H.out _ HL.out).mono ?_; rintro e w1 ⟨⟨x, rfl, hx⟩, rfl⟩
  have HX := Lib.hid hx
  clear hx
  go_wp2_with fail
  go_ret
  exact ⟨ret_bool HX.out, rfl⟩
set_option maxHeartbeats 1000000 in
theorem wprod_any (ao : Option Addr) (c n : Nat) (l : List ByteArray) (w : World) (hl : NS w ao l) (hn : l.length = n) (h1 : n ≤ 1000) (hv : ∀ x ∈ l, IsN x (nv x) ∧ 0 < nv x) :
    Calls Try.prog 31 #[.slice ao n c] w fun e w' => e = .returned (.tuple #[.string (fitS (pdL (l.map nv))), .int .i64 (fitE (pdL (l.map nv)))]) ∧ Below w.heap.size w w' := by
  have HN := Lib.hid hn
  have HL := Lib.hid hl
  have HV := Lib.hid hv
  have HP : Hid (∀ x ∈ l.map nv, 0 < x) := fun x hx => by
    obtain ⟨y, hy, rfl⟩ := List.mem_map.1 hx
    exact (hv y hy).2
  clear hn hl hv
  go_enter Try.func31, Try.ntmps31
  go_wp2_with fail
  refine (of1 w).mono ?_; rintro e w1 ⟨rfl, b1⟩
  go_wp2_with fail
  go_loopw [4, 11] (fun vo i wr => ∃ k : Nat, k ≤ n ∧ i = .int .i64 k ∧ vo = .string (enc (pdL ((l.map nv).take k))) ∧ blen (pdL ((l.map nv).take k)) ≤ 128 ∧ Below w.heap.size w wr) (fun _ i _ => n - (intOf i).toNat)
  case atStart => exact ⟨0, by omega, rfl, rfl, by rw [List.take_zero]; decide, b1⟩
  case round =>
    clear b1
    obtain ⟨k, hk, rfl, rfl, hle, hb⟩ := hrel
    by_cases hlt : k < n
    · have hkl : k < l.length := by rw [HN.out]; exact hlt
      obtain ⟨b, off, rfl, hc⟩ := HL.out k hkl
      have hst := pdL_take_succ (l.map nv) k (by simpa using hkl)
      rw [List.getElem_map] at hst
      have hx := HV.out _ (List.getElem_mem hkl)
      obtain ⟨X, hX⟩ : ∃ X, l[k] = X := ⟨_, rfl⟩
      rw [hX] at hc hst hx
      have hc2 := cellB_below hc hb (Nat.le_refl _)
      have HM := Lib.hid (fun w => Mul_any (enc (pdL ((l.map nv).take k))) X _ (nv X) w (IsN.mk' hle) hx.1)
      rw [← hst] at HM
      by_cases hf : blen (pdL ((l.map nv).take (k + 1))) ≤ 128
      · rw [fitS_ok hf, fitE_ok hf] at HM
        have HF := Lib.hid hf
        clear hst hx hX hle hf hc
        go_wp2_with fail
        refine (HM.out _).mono ?_; rintro e w2 ⟨rfl, b2⟩
        have hb2 := hb.trans (b2.mono hb.size)
        go_wp2_with fail
        go_roundw
        case rel => exact ⟨k + 1, by omega, by go_num, rfl, HF.out, hb2⟩
        case measure => simp [intOf]; omega
      · have hf2 : ¬ blen (pdL (l.map nv)) ≤ 128 := fun h => hf (Nat.le_trans (blen_mono (pdL_take_le HP.out _)) h)
        have HR : Hid (fitS (pdL (l.map nv)) = ⟨#[]⟩ ∧ fitE (pdL (l.map nv)) = 5) := ⟨if_neg hf2, if_neg hf2⟩
        have e1 : fitS (pdL ((l.map nv).take (k + 1))) = ⟨#[]⟩ := if_neg hf
        have e2 : fitE (pdL ((l.map nv).take (k + 1))) = 5 := if_neg hf
        rw [e1, e2] at HM
        clear hst hx hX hle hf hf2 hc e1 e2
        go_wp2_with fail
        refine (HM.out _).mono ?_; rintro e w2 ⟨rfl, b2⟩
        have hb2 := hb.trans (b2.mono hb.size)
        go_wp2_with fail
        go_ret2
        exact ⟨by rw [HR.out.1, HR.out.2]; rfl, hb2⟩
    · obtain rfl : k = n := by omega
      have e1 : (l.map nv).take k = l.map nv := List.take_of_length_le (by rw [List.length_map, HN.out]; exact Nat.le_refl _)
      rw [e1] at hle ⊢
      have HR := Lib.hid (And.intro (fitS_ok hle) (fitE_ok hle))
      clear hle e1
      go_wp2_with fail
      go_ret2
      exact ⟨by rw [HR.out.1, HR.out.2]; rfl, hb⟩
set_option maxHeartbeats 4000000 in
/-- the product does not fit -/
theorem imul_over (x y : Int) (w : World) (hx : ZOk x) (hy : ZOk y) (hz : 128 < blen (x * y).natAbs) :
    Calls Try.prog 34 #[.agg #[.bool (zb x), .string (zs x)], .agg #[.bool (zb y), .string (zs y)]] w fun e w' => e = .returned (.tuple #[.agg #[.bool false, .string ⟨#[]⟩], .int .i64 5]) ∧ Below w.heap.size w w' := by
  have HX := Lib.hid hx
  have HY := Lib.hid hy
  have hq : ¬ blen (x.natAbs * y.natAbs) ≤ 128 := by rw [← Int.natAbs_mul]; omega
  have hf : fitS (x.natAbs * y.natAbs) = ⟨#[]⟩ ∧ fitE (x.natAbs * y.natAbs) = 5 := ⟨if_neg hq, if_neg hq⟩
  have hs : ((!(zb x == zb y)) && !((⟨#[]⟩ : ByteArray).toList.isEmpty)) = false := by
    have : (⟨#[]⟩ : ByteArray).toList.isEmpty = true := by decide +kernel
    rw [this]; simp
  have HF := Lib.hid (And.intro hf hs)
  clear hx hy hz hq hf hs
  obtain ⟨w1, hw1, bx, by', br, hs1, b1⟩ := box3 w x y
  have k0 := bx.c0
  have k1 := bx.c1
  have k2 := by'.c0
  have k3 := by'.c1
  go_enter Try.func34, Try.ntmps34
  go_wp2_with fail
  clear k0 k1 k2 k3
  refine (both_z x y _ HX.out HY.out).mono ?_
  rintro e w2 ⟨rfl, b2⟩
  have x2 := bx.below b2 bx.lt
  have y2 := by'.below b2 by'.lt
  have r2 := br.below b2 br.lt
  replace b2 := b1.trans (b2.mono b1.size)
  have c0 := x2.c0
  have c1 := x2.c1
  have c2 := y2.c0
  have c3 := y2.c1
  clear bx by' br b1 hs1 hw1
  go_wp2_with fail
  refine (Mul_any _ _ _ _ _ HX.out.isN HY.out.isN).mono ?_
  rw [HF.out.1.1, HF.out.1.2]
  rintro e w3 ⟨rfl, b3⟩
  have x3 := x2.below b3 x2.lt
  have y3 := y2.below b3 y2.lt
  have r3 := r2.below b3 r2.lt
  replace b3 := b2.trans (b3.mono b2.size)
  have a0 := x3.c0
  have a1 := y3.c0
  clear x2 y2 r2 b2 c0 c1 c2 c3
  go_wp2_with fail
  refine (made_any _ _ _).mono ?_
  rw [HF.out.2]
  rintro e w4 ⟨rfl, b4⟩
  have r4 := r3.below b4 r3.lt
  have f0 := r4.f0
  have f1 := r4.f1
  have g0 := r4.c0
  have g1 := r4.c1
  replace b4 := b3.trans (b4.mono b3.size)
  go_wp2_with fail
  refine bodyPost_int2 rfl rfl rfl (put2 r4) rfl ⟨rfl, ?_⟩
  exact (b4.setCell (p := ⟨w.heap.size + 1 + 1, 0, none⟩) (by simp; omega) _).setCell (p := ⟨w.heap.size + 1 + 1, 1, none⟩) (by simp; omega) _
theorem results_w3 {fn : Func} {p q u : Tmp} (h : fn.results = #[.cell p 34, .cell q 34, .tmp u]) (tmps : Array Value) (P : Program) (w : World) :
    (results fn tmps).run P w =
      ((asAddr (tmps.getD p undef)).run P w).andThen fun a w1 => ((loadVar 34 a).run P w1).andThen fun v w2 =>
        ((asAddr (tmps.getD q undef)).run P w2).andThen fun b w3 => ((loadVar 34 b).run P w3).andThen fun v' w4 => .ok (.tuple #[v, v', tmps.getD u undef]) w4 := by
  simp only [results, h]
  simp [Sem.run_bind, Result.andThen]
theorem bodyPost_w3 {fn : Func} {R : Ending → World → Prop} {p q u : Tmp} {a : Act} {W : World} {b c : Nat} {v v0 v1 u0 u1 : Value} (h : fn.results = #[.cell p 34, .cell q 34, .tmp u])
    (hp : a.tmps.getD p undef = .pointer (some ⟨b, 0, none⟩)) (hq : a.tmps.getD q undef = .pointer (some ⟨c, 0, none⟩)) (hu : a.tmps.getD u undef = v)
    (hb : W.heap[b]? = some (.cells #[v0, v1] 34 (0, 0))) (hc : W.heap[c]? = some (.cells #[u0, u1] 34 (0, 0))) (hd : a.defers = [])
    (hR : R (.returned (.tuple #[.agg #[v0, v1], .agg #[u0, u1], v])) W) : bodyPost Try.prog fn R Exit.ret a W := by
  refine bodyPost_ret (v := .tuple #[.agg #[v0, v1], .agg #[u0, u1], v]) (w := W) ?_ hd hR
  rw [results_w3 h, hp, hq, hu]
  simp [asAddr, Result.andThen, run_loadVar_row W b _ _ _ (0, 0) _ hb Try.underlying34 rfl info_Int, run_loadVar_row W c _ _ _ (0, 0) _ hc Try.underlying34 rfl info_Int]
/-- two results, still empty -/
structure XS (w W : World) : Prop where
  r6 : RBox W w.heap.size
  r7 : RBox W (w.heap.size + 1)
  b : Below w.heap.size w W
theorem XS.below {w W W' : World} (h : XS w W) (hb : Below W.heap.size W W') : XS w W' := ⟨h.r6.below hb h.r6.lt, h.r7.below hb h.r7.lt, h.b.trans (hb.mono h.b.size)⟩
theorem XS.alloc {w W : World} (h : XS w W) (o : Obj) : XS w (W.alloc o) := h.below ((Below.refl _ W).alloc (Nat.le_refl _) o)
theorem XS.drew {w W : World} (h : XS w W) : XS w W.drew := ⟨h.r6.drew, h.r7.drew, h.b.drew⟩
theorem XS.put {w W : World} (h : XS w W) {b : Nat} (hb : w.heap.size + 1 < b) (u v : Value) : XS w ((W.setCell ⟨b, 0, none⟩ u).setCell ⟨b, 1, none⟩ v) := by
  have e : ∀ k, k < b → ((W.setCell ⟨b, 0, none⟩ u).setCell ⟨b, 1, none⟩ v).heap[k]? = W.heap[k]? := fun k hk =>
    (Below.heap_setCell _ _ _ _ (by show k ≠ b; omega)).trans (Below.heap_setCell _ _ _ _ (by show k ≠ b; omega))
  exact ⟨(e _ (by omega)).trans h.r6, (e _ (by omega)).trans h.r7, (h.b.setCell (p := ⟨b, 0, none⟩) (by show _ ≤ b; omega) _).setCell (p := ⟨b, 1, none⟩) (by show _ ≤ b; omega) _⟩
theorem XS.start (w : World) : XS w ((w.alloc (.cells #[.bool false, .string ⟨#[]⟩] 34)).alloc (.cells #[.bool false, .string ⟨#[]⟩] 34)) := by
  have h2 := RBox.new (w.alloc (.cells #[.bool false, .string ⟨#[]⟩] 34))
  rw [World.size_alloc] at h2
  exact ⟨(RBox.new w).alloc _, h2, ((Below.refl _ w).alloc (Nat.le_refl _) _).alloc (by simp) _⟩
/-- both results stored -/
theorem XS.out {w W : World} (h : XS w W) (u0 u1 v0 v1 : Value) :
    ∃ W', (((W.setCell ⟨w.heap.size, 0, none⟩ u0).setCell ⟨w.heap.size, 1, none⟩ u1).setCell ⟨w.heap.size + 1, 0, none⟩ v0).setCell ⟨w.heap.size + 1, 1, none⟩ v1 = W' ∧
      W'.heap[w.heap.size]? = some (.cells #[u0, u1] 34 (0, 0)) ∧ W'.heap[w.heap.size + 1]? = some (.cells #[v0, v1] 34 (0, 0)) ∧ Below w.heap.size w W' := by
  refine ⟨_, rfl, ?_, ?_, ?_⟩
  · exact (Below.heap_setCell _ _ _ _ (by simp)).trans ((Below.heap_setCell _ _ _ _ (by simp)).trans (put2 h.r6))
  · exact put2 ((Below.heap_setCell _ _ _ _ (by simp)).trans ((Below.heap_setCell _ _ _ _ (by simp)).trans h.r7))
  · exact (((h.b.setCell (p := ⟨w.heap.size, 0, none⟩) (Nat.le_refl _) _).setCell (p := ⟨w.heap.size, 1, none⟩) (Nat.le_refl _) _).setCell (p := ⟨w.heap.size + 1, 0, none⟩) (Nat.le_succ _) _).setCell (p := ⟨w.heap.size + 1, 1, none⟩) (Nat.le_succ _) _
end Go.Proofs.Ytcjbbneiobnmkaa

/- witness: exponents, Exponents. -/
namespace Go.Proofs.Ytcjbbneiobnmkaa
open Go.RowKit Num
set_option maxRecDepth 20000
set_option linter.unusedVariables false
/-- canonical numbers other than 0 -/
def PosN (l : List ByteArray) : Prop := ∀ x ∈ l, IsN x (nv x) ∧ 0 < nv x
theorem PosN.pd {l : List ByteArray} (h : PosN l) : 0 < pdL (l.map nv) := pdL_pos fun x hx => by
  obtain ⟨y, hy, rfl⟩ := List.mem_map.1 hx
  exact (h y hy).2
/-- what exponents returns -/
def XR (u : ByteArray) (la ld : List ByteArray) (w : World) (e : Ending) (w' : World) : Prop :=
  e = .returned (.tuple #[.agg #[.bool (zb (wxX u la ld)), .string (zs (wxX u la ld))], .agg #[.bool (zb (wxY u la ld)), .string (zs (wxY u la ld))], .int .i64 (wxE u la ld)]) ∧ Below w.heap.size w w'
theorem XR.bad {u : ByteArray} {la ld : List ByteArray} {w : World} {e : Ending} {w' : World} {c : Int} (hc : wxE u la ld = c) (h0 : c ≠ 0)
    (h : e = .returned (.tuple #[.agg #[.bool false, .string ⟨#[]⟩], .agg #[.bool false, .string ⟨#[]⟩], .int .i64 c]) ∧ Below w.heap.size w w') : XR u la ld w e w' := by
  refine ⟨?_, h.2⟩
  rw [h.1, wxX, wxY, hc, zif_bad h0, zif_bad h0, zs0]
  rfl
theorem exps_in (u : ByteArray) (a1 a2 : Option Addr) (c1 c2 n1 n2 : Nat) (la ld : List ByteArray) (w : World) (hl2 : NS w a2 ld) (hn2 : ld.length = n2) (h2 : n2 ≤ 1000) (hin : inB u ld = true) :
    Calls Try.prog 21 #[.string u, .slice a1 n1 c1, .slice a2 n2 c2] w fun e w' => e = .returned (.tuple #[.agg #[.bool false, .string ⟨#[]⟩], .agg #[.bool false, .string ⟨#[]⟩], .int .i64 20]) ∧ Below w.heap.size w w' := by
  have HC := Lib.hid (fun w h => contains_any a2 c2 n2 ld u w h hn2 (by unfold maxLen; omega))
  rw [hin] at HC
  have hs := XS.start w
  have HL := Lib.hid (hl2.below hs.b (Nat.le_refl _))
  clear hl2 hn2 hin
  go_enter Try.func21, Try.ntmps21
  go_wp2_with fail
  generalize World.alloc _ _ = w0 at hs HL ⊢
  refine (HC.out _ HL.out).mono ?_; rintro e w1 ⟨rfl, rfl⟩
  have f0 := hs.r6.f0
  have f1 := hs.r6.f1
  have k0 := hs.r6.c0
  have k1 := hs.r6.c1
  have f2 := hs.r7.f0
  have f3 := hs.r7.f1
  have k2 := hs.r7.c0
  have k3 := hs.r7.c1
  obtain ⟨W', hW', o1, o2, hB⟩ := hs.out (.bool false) (.string ⟨#[]⟩) (.bool false) (.string ⟨#[]⟩)
  go_wp2_with fail
  exact bodyPost_w3 rfl rfl rfl rfl o1 o2 rfl ⟨rfl, hB⟩
set_option maxHeartbeats 4000000 in
theorem exps_long (u : ByteArray) (a1 a2 : Option Addr) (c1 c2 n1 n2 : Nat) (la ld : List ByteArray) (w : World) (hl1 : NS w a1 la) (hl2 : NS w a2 ld) (hn1 : la.length = n1) (hn2 : ld.length = n2) (h1 : n1 ≤ 1000) (h2 : n2 ≤ 1000) (hin : inB u ld = false)
    (hp1 : PosN la) (hp2 : PosN ld) (hbad : 128 < blen (pdL (la.map nv)) ∨ 128 < blen (pdL (ld.map nv))) :
    Calls Try.prog 21 #[.string u, .slice a1 n1 c1, .slice a2 n2 c2] w fun e w' => e = .returned (.tuple #[.agg #[.bool false, .string ⟨#[]⟩], .agg #[.bool false, .string ⟨#[]⟩], .int .i64 5]) ∧ Below w.heap.size w w' := by
  have HC := Lib.hid (fun w h => contains_any a2 c2 n2 ld u w h hn2 (by unfold maxLen; omega))
  rw [hin] at HC
  have HP1 := Lib.hid (fun w h => wprod_any a1 c1 n1 la w h hn1 h1 hp1)
  have HP2 := Lib.hid (fun w h => wprod_any a2 c2 n2 ld w h hn2 h2 hp2)
  have hs := XS.start w
  have HL1 := Lib.hid (hl1.below hs.b (Nat.le_refl _))
  have HL2 := Lib.hid (hl2.below hs.b (Nat.le_refl _))
  obtain ⟨SA, hSA⟩ : ∃ S, fitS (pdL (la.map nv)) = S := ⟨_, rfl⟩
  obtain ⟨SD, hSD⟩ : ∃ S, fitS (pdL (ld.map nv)) = S := ⟨_, rfl⟩
  rw [hSA] at HP1
  rw [hSD] at HP2
  by_cases hb1 : 128 < blen (pdL (la.map nv))
  · rw [show fitE (pdL (la.map nv)) = 5 from if_neg (by omega)] at HP1
    obtain ⟨E2, hE2⟩ : ∃ E, fitE (pdL (ld.map nv)) = E := ⟨_, rfl⟩
    rw [hE2] at HP2
    clear hl1 hl2 hn1 hn2 hin hp1 hp2 hbad hSA hSD hb1 hE2
    go_enter Try.func21, Try.ntmps21
    go_wp2_with fail
    generalize World.alloc _ _ = w0 at hs HL1 HL2 ⊢
    refine (HC.out _ HL2.out).mono ?_; rintro e w1 ⟨rfl, rfl⟩
    go_wp2_with fail
    refine (HP1.out _ HL1.out).mono ?_; rintro e w2 ⟨rfl, b2⟩
    have hs2 := hs.below b2
    have HL2' := Lib.hid (HL2.out.below b2 (Nat.le_refl _))
    go_wp2_with fail
    refine (HP2.out _ HL2'.out).mono ?_; rintro e w3 ⟨rfl, b3⟩
    have hs3 := hs2.below b3
    clear hs HL1 HL2 b2 hs2 HL2' b3
    have f0 := hs3.r6.f0
    have f1 := hs3.r6.f1
    have k0 := hs3.r6.c0
    have k1 := hs3.r6.c1
    have f2 := hs3.r7.f0
    have f3 := hs3.r7.f1
    have k2 := hs3.r7.c0
    have k3 := hs3.r7.c1
    obtain ⟨W', hW', o1, o2, hB⟩ := hs3.out (.bool false) (.string ⟨#[]⟩) (.bool false) (.string ⟨#[]⟩)
    go_wp2_with fail
    exact bodyPost_w3 rfl rfl rfl rfl o1 o2 rfl ⟨rfl, hB⟩
  · rw [show fitE (pdL (la.map nv)) = 0 from if_pos (by omega)] at HP1
    rw [show fitE (pdL (ld.map nv)) = 5 from if_neg (by omega)] at HP2
    clear hl1 hl2 hn1 hn2 hin hp1 hp2 hbad hSA hSD hb1
    go_enter Try.func21, Try.ntmps21
    go_wp2_with fail
    generalize World.alloc _ _ = w0 at hs HL1 HL2 ⊢
    refine (HC.out _ HL2.out).mono ?_; rintro e w1 ⟨rfl, rfl⟩
    go_wp2_with fail
    refine (HP1.out _ HL1.out).mono ?_; rintro e w2 ⟨rfl, b2⟩
    have hs2 := hs.below b2
    have HL2' := Lib.hid (HL2.out.below b2 (Nat.le_refl _))
    go_wp2_with fail
    refine (HP2.out _ HL2'.out).mono ?_; rintro e w3 ⟨rfl, b3⟩
    have hs3 := hs2.below b3
    clear hs HL1 HL2 b2 hs2 HL2' b3
    have f0 := hs3.r6.f0
    have f1 := hs3.r6.f1
    have k0 := hs3.r6.c0
    have k1 := hs3.r6.c1
    have f2 := hs3.r7.f0
    have f3 := hs3.r7.f1
    have k2 := hs3.r7.c0
    have k3 := hs3.r7.c1
    obtain ⟨W', hW', o1, o2, hB⟩ := hs3.out (.bool false) (.string ⟨#[]⟩) (.bool false) (.string ⟨#[]⟩)
    go_wp2_with fail
    exact bodyPost_w3 rfl rfl rfl rfl o1 o2 rfl ⟨rfl, hB⟩
set_option maxHeartbeats 4000000 in
theorem exps_gcd (u : ByteArray) (a1 a2 : Option Addr) (c1 c2 n1 n2 : Nat) (la ld : List ByteArray) (w : World) (hu : IsN u (nv u)) (hl1 : NS w a1 la) (hl2 : NS w a2 ld) (hn1 : la.length = n1) (hn2 : ld.length = n2) (h1 : n1 ≤ 1000) (h2 : n2 ≤ 1000) (hin : inB u ld = false)
    (hp1 : PosN la) (hp2 : PosN ld) (hb1 : blen (pdL (la.map nv)) ≤ 128) (hb2 : blen (pdL (ld.map nv)) ≤ 128) (hg : Nat.gcd (nv u) (pdL (ld.map nv)) ≠ 1) :
    Calls Try.prog 21 #[.string u, .slice a1 n1 c1, .slice a2 n2 c2] w fun e w' => e = .returned (.tuple #[.agg #[.bool false, .string ⟨#[]⟩], .agg #[.bool false, .string ⟨#[]⟩], .int .i64 1]) ∧ Below w.heap.size w w' := by
  have HC := Lib.hid (fun w h => contains_any a2 c2 n2 ld u w h hn2 (by unfold maxLen; omega))
  rw [hin] at HC
  have HP1 := Lib.hid (fun w h => wprod_any a1 c1 n1 la w h hn1 h1 hp1)
  have HP2 := Lib.hid (fun w h => wprod_any a2 c2 n2 ld w h hn2 h2 hp2)
  have hd0 := hp2.pd
  have hs := XS.start w
  have HL1 := Lib.hid (hl1.below hs.b (Nat.le_refl _))
  have HL2 := Lib.hid (hl2.below hs.b (Nat.le_refl _))
  obtain ⟨A, hA⟩ : ∃ S, pdL (la.map nv) = S := ⟨_, rfl⟩
  obtain ⟨D, hD⟩ : ∃ S, pdL (ld.map nv) = S := ⟨_, rfl⟩
  rw [hA] at HP1 hb1
  rw [hD] at HP2 hb2 hg hd0
  rw [fitS_ok hb1, fitE_ok hb1] at HP1
  rw [fitS_ok hb2, fitE_ok hb2] at HP2
  have HX := Lib.hid (fun w => extended_any u (enc D) (nv u) D w hu (IsN.mk' hb2) hd0)
  obtain ⟨e1, e2⟩ := enc_ne hg
  have HU := Lib.hid of1
  clear hl1 hl2 hn1 hn2 hin hp1 hp2 hb1 hb2 hA hD hg hd0 hu
  go_enter Try.func21, Try.ntmps21
  go_wp2_with fail
  generalize World.alloc _ _ = w0 at hs HL1 HL2 ⊢
  refine (HC.out _ HL2.out).mono ?_; rintro e w1 ⟨rfl, rfl⟩
  go_wp2_with fail
  refine (HP1.out _ HL1.out).mono ?_; rintro e w2 ⟨rfl, b2⟩
  have hs2 := hs.below b2
  have HL2' := Lib.hid (HL2.out.below b2 (Nat.le_refl _))
  go_wp2_with fail
  refine (HP2.out _ HL2'.out).mono ?_; rintro e w3 ⟨rfl, b3⟩
  have hs3 := hs2.below b3
  clear hs HL1 HL2 b2 hs2 HL2' b3 HC HP1 HP2
  go_wp2_with fail
  refine (HX.out _).mono ?_
  rintro e w4 ⟨x, y, rfl, _, _, _, _, b4⟩
  have hs4 := ((hs3.below b4).alloc (.cells #[.bool (zb x), .string (zs x)] 34)).alloc (.cells #[.bool (zb y), .string (zs y)] 34)
  clear hs3 b4
  go_wp2_with fail
  generalize World.alloc _ _ = w5 at hs4 ⊢
  refine (HU.out _).mono ?_; rintro e w6 ⟨rfl, b6⟩
  have hs3 := hs4.below b6
  clear hs4 b6
  have f0 := hs3.r6.f0
  have f1 := hs3.r6.f1
  have k0 := hs3.r6.c0
  have k1 := hs3.r6.c1
  have f2 := hs3.r7.f0
  have f3 := hs3.r7.f1
  have k2 := hs3.r7.c0
  have k3 := hs3.r7.c1
  obtain ⟨W', hW', o1, o2, hB⟩ := hs3.out (.bool false) (.string ⟨#[]⟩) (.bool false) (.string ⟨#[]⟩)
  go_wp2_with fail
  exact bodyPost_w3 rfl rfl rfl rfl o1 o2 rfl ⟨rfl, hB⟩
/-- the results and the coefficients -/
structure XT (w W : World) (p : Nat) (x y : Int) : Prop where
  xs : XS w W
  zx : ZBox W p x
  zy : ZBox W (p + 1) y
  hp : w.heap.size + 1 < p
theorem XT.below {w W W' : World} {p : Nat} {x y : Int} (h : XT w W p x y) (hb : Below W.heap.size W W') : XT w W' p x y := ⟨h.xs.below hb, h.zx.below hb h.zx.lt, h.zy.below hb h.zy.lt, h.hp⟩
theorem XT.alloc {w W : World} {p : Nat} {x y : Int} (h : XT w W p x y) (o : Obj) : XT w (W.alloc o) p x y := h.below ((Below.refl _ W).alloc (Nat.le_refl _) o)
theorem XT.drew {w W : World} {p : Nat} {x y : Int} (h : XT w W p x y) : XT w W.drew p x y := ⟨h.xs.drew, h.zx.drew, h.zy.drew, h.hp⟩
theorem XT.put {w W : World} {p : Nat} {x y : Int} (h : XT w W p x y) {b : Nat} (hb : p + 1 < b) (u v : Value) : XT w ((W.setCell ⟨b, 0, none⟩ u).setCell ⟨b, 1, none⟩ v) p x y := by
  have e : ∀ k, k < b → ((W.setCell ⟨b, 0, none⟩ u).setCell ⟨b, 1, none⟩ v).heap[k]? = W.heap[k]? := fun k hk =>
    (Below.heap_setCell _ _ _ _ (by show k ≠ b; omega)).trans (Below.heap_setCell _ _ _ _ (by show k ≠ b; omega))
  exact ⟨h.xs.put (by have := h.hp; omega) u v, (e _ (by omega)).trans h.zx, (e _ (by omega)).trans h.zy, h.hp⟩
/-- a variable of type Int with any sign and magnitude -/
def IBx (W : World) (b : Nat) (g : Bool) (s : ByteArray) : Prop := W.heap[b]? = some (.cells #[.bool g, .string s] 34 (0, 0))
theorem IBx.c0 {W : World} {b : Nat} {g : Bool} {s : ByteArray} (h : IBx W b g s) : W.cell? ⟨b, 0, none⟩ = some (.bool g) := by rw [Lib.cell_of_heap h]; rfl
theorem IBx.c1 {W : World} {b : Nat} {g : Bool} {s : ByteArray} (h : IBx W b g s) : W.cell? ⟨b, 1, none⟩ = some (.string s) := by rw [Lib.cell_of_heap h]; rfl
set_option maxHeartbeats 8000000 in
theorem exps_last (u : ByteArray) (a1 a2 : Option Addr) (c1 c2 n1 n2 : Nat) (la ld : List ByteArray) (w : World) (hu : IsN u (nv u)) (hl1 : NS w a1 la) (hl2 : NS w a2 ld) (hn1 : la.length = n1) (hn2 : ld.length = n2) (h1 : n1 ≤ 1000) (h2 : n2 ≤ 1000) (hin : inB u ld = false)
    (hp1 : PosN la) (hp2 : PosN ld) (hb1 : blen (pdL (la.map nv)) ≤ 128) (hb2 : blen (pdL (ld.map nv)) ≤ 128) (hg : Nat.gcd (nv u) (pdL (ld.map nv)) = 1)
    (gX : Bool) (sX : ByteArray) (E : Int) (hE : (E = 5 ∧ gX = false ∧ sX = ⟨#[]⟩) ∨ E = 0)
    (hmul : ∀ w, Calls Try.prog 34 #[.agg #[.bool (zb (wtB (nv u) (pdL (ld.map nv)))), .string (zs (wtB (nv u) (pdL (ld.map nv))))], .agg #[.bool (zb ((pdL (la.map nv) : Nat) : Int)), .string (zs ((pdL (la.map nv) : Nat) : Int))]] w fun e w' => e = .returned (.tuple #[.agg #[.bool gX, .string sX], .int .i64 E]) ∧ Below w.heap.size w w') :
    Calls Try.prog 21 #[.string u, .slice a1 n1 c1, .slice a2 n2 c2] w fun e w' => e = .returned (.tuple #[.agg #[.bool gX, .string sX], .agg #[.bool (zb (if E = 0 then (wtY (nv u) (pdL (ld.map nv)) : Int) else 0)), .string (zs (if E = 0 then (wtY (nv u) (pdL (ld.map nv)) : Int) else 0))], .int .i64 E]) ∧ Below w.heap.size w w' := by
  have HC := Lib.hid (fun w h => contains_any a2 c2 n2 ld u w h hn2 (by unfold maxLen; omega))
  rw [hin] at HC
  have HP1 := Lib.hid (fun w h => wprod_any a1 c1 n1 la w h hn1 h1 hp1)
  have HP2 := Lib.hid (fun w h => wprod_any a2 c2 n2 ld w h hn2 h2 hp2)
  have hd0 := hp2.pd
  have hs := XS.start w
  have HL1 := Lib.hid (hl1.below hs.b (Nat.le_refl _))
  have HL2 := Lib.hid (hl2.below hs.b (Nat.le_refl _))
  obtain ⟨A, hA⟩ : ∃ S, pdL (la.map nv) = S := ⟨_, rfl⟩
  obtain ⟨D, hD⟩ : ∃ S, pdL (ld.map nv) = S := ⟨_, rfl⟩
  rw [hA] at HP1 hb1 hmul
  rw [hD] at HP2 hb2 hg hd0 hmul ⊢
  rw [fitS_ok hb1, fitE_ok hb1] at HP1
  rw [fitS_ok hb2, fitE_ok hb2] at HP2
  have hx := fun w => extended_any u (enc D) (nv u) D w hu (IsN.mk' hb2) hd0
  have HX : Hid (∀ w, Calls Try.prog 32 #[.string u, .string (enc D)] w fun e w' => e = .returned (.tuple #[.string (enc 1), .agg #[.bool (zb (wtY (nv u) D : Int)), .string (zs (wtY (nv u) D : Int))], .agg #[.bool (zb (wtB (nv u) D)), .string (zs (wtB (nv u) D))], .int .i64 0]) ∧ Below w.heap.size w w') := fun w => by
    refine (hx w).mono ?_
    rintro e w' ⟨x, y, rfl, h1, h2, h3, _, b⟩
    rw [hg] at h1 h3 ⊢
    rw [Nat.div_one] at h3
    obtain ⟨rfl, rfl⟩ := wt_of hd0 hg h1 h2 h3
    exact ⟨rfl, b⟩
  have e1 := enc_same' 1
  have HU := Lib.hid of1
  have HF := Lib.hid (fun w => from_z A w hb1)
  have HM := Lib.hid hmul
  have HE := Lib.hid hE
  obtain ⟨x, hxx⟩ : ∃ x, (wtY (nv u) D : Int) = x := ⟨_, rfl⟩
  obtain ⟨y, hyy⟩ : ∃ x, wtB (nv u) D = x := ⟨_, rfl⟩
  obtain ⟨ga, hga⟩ : ∃ x, zb ((A : Nat) : Int) = x := ⟨_, rfl⟩
  obtain ⟨sa, hsa⟩ : ∃ x, zs ((A : Nat) : Int) = x := ⟨_, rfl⟩
  rw [hxx, hyy] at HX
  rw [hyy, hga, hsa] at HM
  rw [hga, hsa] at HF
  rw [hxx]
  clear hl1 hl2 hn1 hn2 hin hp1 hp2 hb1 hb2 hA hD hg hd0 hu hx hmul hE hxx hyy hga hsa
  go_enter Try.func21, Try.ntmps21
  go_wp2_with fail
  generalize World.alloc _ _ = w0 at hs HL1 HL2 ⊢
  refine (HC.out _ HL2.out).mono ?_; rintro e w1 ⟨rfl, rfl⟩
  go_wp2_with fail
  refine (HP1.out _ HL1.out).mono ?_; rintro e w2 ⟨rfl, b2⟩
  have hs2 := hs.below b2
  have HL2' := Lib.hid (HL2.out.below b2 (Nat.le_refl _))
  go_wp2_with fail
  refine (HP2.out _ HL2'.out).mono ?_; rintro e w3 ⟨rfl, b3⟩
  have hs3 := hs2.below b3
  clear hs HL1 HL2 b2 hs2 HL2' b3 HC HP1 HP2
  go_wp2_with fail
  refine (HX.out _).mono ?_
  rintro e w4 ⟨rfl, b4⟩
  have hs4 := hs3.below b4
  have hz1 := (ZBox.new w4 x).alloc (.cells #[.bool (zb y), .string (zs y)] 34)
  have hz2 := ZBox.new (w4.alloc (.cells #[.bool (zb x), .string (zs x)] 34)) y
  rw [World.size_alloc] at hz2
  have ht : XT w ((w4.alloc (.cells #[.bool (zb x), .string (zs x)] 34)).alloc (.cells #[.bool (zb y), .string (zs y)] 34)) w4.heap.size x y := ⟨(hs4.alloc _).alloc _, hz1, hz2, hs4.r7.lt⟩
  clear hs3 b4 hs4 hz1 hz2 HX
  go_wp2_with fail
  generalize w4.heap.size = p at ht ⊢
  generalize World.alloc _ _ = w5 at ht ⊢
  refine (HU.out _).mono ?_; rintro e w6 ⟨rfl, b6⟩
  have ht2 := ht.below b6
  clear ht b6 HU
  go_wp2_with fail
  go_cut [10, 17] from 54 (fun s10 s17 wc => ∃ b : Nat, s10 = .int .i64 E ∧ s17 = .pointer (some ⟨b, 0, none⟩) ∧ IBx wc b gX sX ∧ XT w wc p x y)
  case first =>
    have hSd : XT w w6.drew p x y := ht2.drew
    have c0 := hSd.zy.c0
    have c1 := hSd.zy.c1
    have hS1 : XT w (w6.alloc (.cells #[.bool false, .string ⟨#[]⟩] 34)).drew p x y := (ht2.alloc _).drew
    have a0 : (w6.alloc (.cells #[.bool false, .string ⟨#[]⟩] 34)).drew.cell? ⟨p + 1, 0, none⟩ = some (.bool (zb y)) := hS1.zy.c0
    have a1 : (w6.alloc (.cells #[.bool false, .string ⟨#[]⟩] 34)).drew.cell? ⟨p + 1, 1, none⟩ = some (.string (zs y)) := hS1.zy.c1
    have a2 : (w6.alloc (.cells #[.bool false, .string ⟨#[]⟩] 34)).cell? ⟨p + 1, 0, none⟩ = some (.bool (zb y)) := hS1.zy.c0
    have a3 : (w6.alloc (.cells #[.bool false, .string ⟨#[]⟩] 34)).cell? ⟨p + 1, 1, none⟩ = some (.string (zs y)) := hS1.zy.c1
    have hp2 : p + 1 < w6.heap.size := ht2.zy.lt
    -- {{
    go_region_with (first
      | ((with_reducible refine (HF.out _).mono ?_); rintro e w7 ⟨rfl, b7⟩; (first | have hS5 := hSd.below b7 | have hS5 := hS1.below b7); (first | (have r5 : RBox w7 w6.heap.size := (RBox.new w6).drew.below b7 (RBox.new w6).lt) | skip); have z5 := b7.size; have d0 := hS5.zy.c0; have d1 := hS5.zy.c1; have t5 := hS5.alloc (.cells #[.bool false, .string ⟨#[]⟩] 34); have g0 := t5.zy.c0; have g1 := t5.zy.c1)
      | ((with_reducible refine (HM.out _).mono ?_); rintro e w8 ⟨rfl, b8⟩; (first | have hS6 := hS5.below b8 | have hS6 := (hS5.alloc _).below b8); (first | have r6 := r5.below b8 r5.lt | have r6 := (RBox.new _).below b8 (by simp) | have r6 := trivial); (first | (have f0 := r6.f0; have f1 := r6.f1; have e0 := r6.c0; have e1 := r6.c1) | skip)))
    all_goals (go_wp2_with fail; go_meet)
    all_goals first
      | exact ⟨_, rfl, rfl, put2 r6, hS6.put (by have := ht2.zy.lt; have := hS5.zy.lt; simp at *; omega) _ _⟩
      | exact ⟨_, rfl, rfl, heap_alloc_new _ _, hS6.alloc _⟩
      | exact ⟨_, rfl, rfl, put2 (RBox.new _), (hS6.alloc _).put (by have := hS6.zy.lt; simp at *; omega) _ _⟩
    -- }}
  case rest =>
    clear ht2
    obtain ⟨b, rfl, rfl, hb, ht⟩ := hcut
    rename World => wm
    have f0 := ht.xs.r6.f0
    have f1 := ht.xs.r6.f1
    have k0 := ht.xs.r6.c0
    have k1 := ht.xs.r6.c1
    have f2 := ht.xs.r7.f0
    have f3 := ht.xs.r7.f1
    have k2 := ht.xs.r7.c0
    have k3 := ht.xs.r7.c1
    rcases HE.out with ⟨hE5, hg, hs⟩ | hE0
    · subst hE5 hg hs
      obtain ⟨W', hW', o1, o2, hB⟩ := ht.xs.out (.bool false) (.string ⟨#[]⟩) (.bool false) (.string ⟨#[]⟩)
      go_wp2_with fail
      exact bodyPost_w3 rfl rfl rfl rfl o1 o2 rfl ⟨by rw [zs0]; rfl, hB⟩
    · subst hE0
      have l0 := ht.zx.c0
      have l1 := ht.zx.c1
      have m0 := hb.c0
      have m1 := hb.c1
      have q1 : p ≠ w.heap.size := by have := ht.hp; omega
      have q2 : p ≠ w.heap.size + 1 := by have := ht.hp; omega
      go_wp2_with fail
      go_region
      obtain ⟨W', hW', o1, o2, hB⟩ := ht.xs.out (.bool gX) (.string sX) (.bool (zb x)) (.string (zs x))
      go_wp2_with fail
      exact bodyPost_w3 rfl rfl rfl rfl o1 o2 rfl ⟨by simp, hB.drew⟩
theorem exponents_any (u : ByteArray) (a1 a2 : Option Addr) (c1 c2 n1 n2 : Nat) (la ld : List ByteArray) (w : World) (hu : IsN u (nv u)) (hl1 : NS w a1 la) (hl2 : NS w a2 ld) (hn1 : la.length = n1) (hn2 : ld.length = n2) (h1 : n1 ≤ 1000) (h2 : n2 ≤ 1000)
    (hp1 : PosN la) (hp2 : PosN ld) :
    Calls Try.prog 21 #[.string u, .slice a1 n1 c1, .slice a2 n2 c2] w (XR u la ld w) := by
  by_cases hin : inB u ld = true
  · exact (exps_in u a1 a2 c1 c2 n1 n2 la ld w hl2 hn2 h2 hin).mono fun e w' h => XR.bad (wxE_in hin) (by decide) h
  have hin' : inB u ld = false := by simpa using hin
  by_cases hb : 128 < blen (pdL (la.map nv)) ∨ 128 < blen (pdL (ld.map nv))
  · exact (exps_long u a1 a2 c1 c2 n1 n2 la ld w hl1 hl2 hn1 hn2 h1 h2 hin' hp1 hp2 hb).mono fun e w' h => XR.bad (wxE_long hin hb) (by decide) h
  by_cases hg : Nat.gcd (nv u) (pdL (ld.map nv)) = 1
  rotate_left
  · exact (exps_gcd u a1 a2 c1 c2 n1 n2 la ld w hu hl1 hl2 hn1 hn2 h1 h2 hin' hp1 hp2 (by omega) (by omega) hg).mono fun e w' h => XR.bad (wxE_gcd hin hb hg) (by decide) h
  have hzb : ZOk (wtB (nv u) (pdL (ld.map nv))) := Nat.le_trans (blen_mono (wt_abs hp2.pd hg)) (blen_max1 hu.le)
  have hza : ZOk ((pdL (la.map nv) : Nat) : Int) := zok_nat (by omega)
  by_cases ho : 128 < blen (wtX (nv u) (pdL (la.map nv)) (pdL (ld.map nv))).natAbs
  · refine (exps_last u a1 a2 c1 c2 n1 n2 la ld w hu hl1 hl2 hn1 hn2 h1 h2 hin' hp1 hp2 (by omega) (by omega) hg false ⟨#[]⟩ 5 (.inl ⟨rfl, rfl, rfl⟩) (fun w => imul_over _ _ w hzb hza ho)).mono fun e w' h => XR.bad (wxE_over hin hb hg ho) (by decide) ?_
    rw [if_neg (by decide), zs0] at h
    exact h
  · refine (exps_last u a1 a2 c1 c2 n1 n2 la ld w hu hl1 hl2 hn1 hn2 h1 h2 hin' hp1 hp2 (by omega) (by omega) hg _ _ 0 (.inr rfl) (fun w => imul_z _ _ w hzb hza (by unfold ZOk; exact Nat.le_of_not_lt ho))).mono fun e w' h => ?_
    rw [if_pos rfl] at h
    unfold XR
    rw [wxX, wxY, wxE_ok hin hb hg ho, zif_zero, zif_zero]
    exact h
end Go.Proofs.Ytcjbbneiobnmkaa
