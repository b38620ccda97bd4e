import Derived.Test.YtcjbbneiobnmkaaGreatWtA
import Derived.Test.YtcjbbneiobnmkaaGreatR3d
import Derived.Test.YtcjbbneiobnmkaaGreatRgA
import Derived.Test.YtcjbbneiobnmkaaGreatWtC
/- The reference of layer 36: Product, formed, zero, exponents. -/
namespace Go.Proofs.YtcjbbneiobnmkaaGreat
open Go.RowKit Num
set_option maxRecDepth 20000
set_option linter.unusedVariables false
theorem validB_enc (n : Nat) : validB (enc n) = decide (blen n ≤ 128) := by
  by_cases h : blen n ≤ 128
  · rw [decide_eq_true h]; exact (IsN.mk' h).valid
  · rw [decide_eq_false h]
    rw [Bool.eq_false_iff]
    intro hv
    have := (isN_of_valid hv).le
    rw [nv_enc] at this
    exact h this
theorem make_sign (b : Int) (a : Nat) : (zb b && !(enc (b.natAbs * a)).toList.isEmpty) = zb (b * a) ∧ enc (b.natAbs * a) = zs (b * a) := by
  have e : b.natAbs * a = (b * a).natAbs := by rw [Int.natAbs_mul]; rfl
  have e2 : enc (b.natAbs * a) = zs (b * a) := by rw [e]; rfl
  refine ⟨?_, e2⟩
  rw [e2, zs_empty]
  unfold zb
  rcases Int.lt_trichotomy b 0 with h1 | h1 | h1
  · rcases Nat.eq_zero_or_pos a with h2 | h2
    · subst h2; simp
    · have := Int.mul_neg_of_neg_of_pos h1 (show (0 : Int) < a by omega)
      rw [decide_eq_true h1, decide_eq_true this, decide_eq_false (show ¬ b * a = 0 by omega)]; rfl
  · subst h1; simp
  · have : 0 ≤ b * a := Int.mul_nonneg (by omega) (by omega)
    rw [decide_eq_false (show ¬ b < 0 by omega), decide_eq_false (show ¬ b * a < 0 by omega)]; rfl
set_option maxHeartbeats 1000000 in
theorem rprod_any (ao : Option Addr) (c n : Nat) (l : List ByteArray) (w : World) (hl : NS w ao l) (hn : l.length = n) (h1 : n ≤ 30) (hv : ∀ x ∈ l, IsN x (nv x)) :
    Calls Tryz.prog 113 #[.slice ao n c] w fun e w' => e = .returned (.string (enc (pdL (l.map nv)))) ∧ Below w.heap.size w w' := by
  have HN := Lib.hid hn
  have HL := Lib.hid hl
  have HV := Lib.hid hv
  have HB : Hid (∀ k, k ≤ n → blen (pdL ((l.map nv).take k)) ≤ 4000) := fun k hk => by
    have h := pdL_blen (l := (l.map nv).take k) (c := 128) (fun x hx => by
      obtain ⟨y, hy, rfl⟩ := List.mem_map.1 (List.mem_of_mem_take hx)
      exact (hv y hy).le)
    have h2 : ((l.map nv).take k).length ≤ 30 := by rw [List.length_take, List.length_map]; omega
    omega
  clear hn hl hv
  go_enter Tryz.func113, Tryz.ntmps113
  go_wp2_with fail
  go_loopw [3, 4] (fun vo i wr => ∃ k : Nat, k ≤ n ∧ i = .int .i64 k ∧ vo = .string (enc (pdL ((l.map nv).take k))) ∧ Below w.heap.size w wr) (fun _ i _ => n - (intOf i).toNat)
  case atStart => exact ⟨0, by omega, rfl, by rw [lit1]; rfl, Below.refl _ _⟩
  case round =>
    obtain ⟨k, hk, rfl, rfl, hb⟩ := hrel
    by_cases hlt : k < n
    · have hkl : k < l.length := by rw [HN.out]; exact hlt
      obtain ⟨b, off, rfl, hc⟩ := HL.out k hkl
      have hst := pdL_take_succ (l.map nv) k (by simpa using hkl)
      rw [List.getElem_map] at hst
      have hx := HV.out _ (List.getElem_mem hkl)
      obtain ⟨X, hX⟩ : ∃ X, l[k] = X := ⟨_, rfl⟩
      rw [hX] at hc hst hx
      have hc2 := cellB_below hc hb (Nat.le_refl _)
      have HM := Lib.hid (fun w => refTimes_any (enc (pdL ((l.map nv).take k))) X _ (nv X) w rfl hx.eq (by rw [size_enc]; have := HB.out k hk; omega) (by have := hx.small; omega))
      rw [← hst] at HM
      clear hst hx hX hc
      go_wp2_with fail
      refine (HM.out _).mono ?_; rintro e w2 ⟨rfl, b2⟩
      have hb2 := hb.trans (b2.mono hb.size)
      go_wp2_with fail
      exact ⟨⟨k + 1, by omega, by go_num, rfl, hb2⟩, by simp [intOf]; omega⟩
    · obtain rfl : k = n := by omega
      have e1 : (l.map nv).take k = l.map nv := List.take_of_length_le (by rw [List.length_map, HN.out]; exact Nat.le_refl _)
      rw [e1]
      clear e1
      go_wp2_with fail
      go_ret
      exact ⟨rfl, hb⟩
theorem rformed_any (ao : Option Addr) (c n : Nat) (l : List ByteArray) (w : World) (hl : NS w ao l) (hn : l.length = n) (h1 : n ≤ maxLen) :
    Calls Tryz.prog 78 #[.slice ao n c] w fun e w' => e = .returned (.bool (l.all validB)) ∧ w = w' := by
  unfold maxLen at h1
  have HN := Lib.hid hn
  have HL := Lib.hid hl
  clear hn hl
  go_enter Tryz.func78, Tryz.ntmps78
  go_wp2_with fail
  go_loop [3] (fun i => ∃ k : Nat, k ≤ n ∧ i = .int .i64 k ∧ Hid (∀ j (hj : j < l.length), j < k → validB l[j] = true)) (fun i => n - (intOf i).toNat)
  case atStart => exact ⟨0, by omega, rfl, fun j _ h => by omega⟩
  case round =>
    obtain ⟨k, hk, rfl, hv⟩ := hrel
    by_cases hlt : k < n
    · have hkl : k < l.length := by rw [HN.out]; exact hlt
      obtain ⟨b, off, rfl, hc⟩ := HL.out k hkl
      obtain ⟨X, hX⟩ : ∃ X, l[k] = X := ⟨_, rfl⟩
      rw [hX] at hc
      cases hval : validB X
      · have HR : Hid (l.all validB = false) := by
          show l.all validB = false
          rw [Bool.eq_false_iff]; exact not_all hkl (by rw [hX]; exact hval)
        have HVV := Lib.hid hval
        clear hval hv hX
        go_wp2_with fail
        refine (refValid_any _ _).mono ?_; rw [HVV.out]; rintro e w1 ⟨rfl, rfl⟩
        go_wp2_with fail
        go_ret
        exact ⟨ret_bool HR.out.symm, rfl⟩
      · have HVV := Lib.hid hval
        have HST : Hid (∀ j (hj : j < l.length), j < k + 1 → validB l[j] = true) := fun j hj hjk => by
          by_cases e : j = k
          · subst e; rw [hX]; exact hval
          · exact hv.out j hj (by omega)
        clear hval hv hX
        go_wp2_with fail
        refine (refValid_any _ _).mono ?_; rw [HVV.out]; rintro e w1 ⟨rfl, rfl⟩
        go_wp2_with fail
        exact ⟨⟨k + 1, by omega, by go_num, HST⟩, by simp [intOf]; omega⟩
    · obtain rfl : k = n := by omega
      have HR := Lib.hid (all_of (l := l) fun j hj => hv.out j hj (by rw [HN.out] at hj; exact hj))
      clear hv
      go_wp2_with fail
      go_ret
      exact ⟨ret_bool HR.out.symm, rfl⟩
theorem rzero_any (ao : Option Addr) (c n : Nat) (l : List ByteArray) (w : World) (hl : NS w ao l) (hn : l.length = n) (h1 : n ≤ maxLen) :
    Calls Tryz.prog 79 #[.slice ao n c] w fun e w' => e = .returned (.bool (!l.all (fun x => !x.toList.isEmpty))) ∧ w = w' := by
  unfold maxLen at h1
  have HN := Lib.hid hn
  have HL := Lib.hid hl
  clear hn hl
  go_enter Tryz.func79, Tryz.ntmps79
  go_wp2_with fail
  go_loop [3] (fun i => ∃ k : Nat, k ≤ n ∧ i = .int .i64 k ∧ Hid (∀ j (hj : j < l.length), j < k → (!l[j].toList.isEmpty) = true)) (fun i => n - (intOf i).toNat)
  case atStart => exact ⟨0, by omega, rfl, fun j _ h => by omega⟩
  case round =>
    obtain ⟨k, hk, rfl, hv⟩ := hrel
    by_cases hlt : k < n
    · have hkl : k < l.length := by rw [HN.out]; exact hlt
      obtain ⟨b, off, rfl, hc⟩ := HL.out k hkl
      obtain ⟨X, hX⟩ : ∃ X, l[k] = X := ⟨_, rfl⟩
      rw [hX] at hc
      by_cases h0 : X.size = 0
      · obtain rfl : X = ⟨#[]⟩ := by cases X with | mk d => simp [ByteArray.size] at h0; simp [h0]
        have HR : Hid (l.all (fun x => !x.toList.isEmpty) = false) := by
          show l.all _ = false
          rw [Bool.eq_false_iff]; exact not_all (p := fun x : ByteArray => !x.toList.isEmpty) hkl (by rw [hX]; decide +kernel)
        clear hv hX h0
        go_wp2_with fail
        go_ret
        exact ⟨ret_bool (by rw [HR.out]; rfl), rfl⟩
      · obtain ⟨n1, n2⟩ := tl_ne h0
        have HST : Hid (∀ j (hj : j < l.length), j < k + 1 → (!l[j].toList.isEmpty) = true) := fun j hj hjk => by
          by_cases e : j = k
          · subst e; rw [hX, n2]; rfl
          · exact hv.out j hj (by omega)
        clear hv hX h0
        go_wp2_with fail
        exact ⟨⟨k + 1, by omega, by go_num, HST⟩, by simp [intOf]; omega⟩
    · obtain rfl : k = n := by omega
      have HR := Lib.hid (all_of (l := l) (p := fun x : ByteArray => !x.toList.isEmpty) fun j hj => hv.out j hj (by rw [HN.out] at hj; exact hj))
      clear hv
      go_wp2_with fail
      go_ret
      exact ⟨ret_bool (by rw [HR.out]; rfl), rfl⟩
end Go.Proofs.YtcjbbneiobnmkaaGreat

/- The reference of layer 36: exponents. -/
namespace Go.Proofs.YtcjbbneiobnmkaaGreat
open Go.RowKit Num
set_option maxRecDepth 20000
set_option linter.unusedVariables false
theorem rexps_in (u : ByteArray) (a1 a2 : Option Addr) (c1 c2 n1 n2 : Nat) (ld : List ByteArray) (w : World) (hl2 : NS w a2 ld) (hn2 : ld.length = n2) (h2 : n2 ≤ 1000) (hin : inB u ld = true) :
    Calls Tryz.prog 80 #[.string u, .slice a1 n1 c1, .slice a2 n2 c2] w fun e w' => e = .returned (.tuple #[.agg #[.bool false, .string ⟨#[]⟩], .agg #[.bool false, .string ⟨#[]⟩], .int .i64 20]) ∧ Below w.heap.size w w' := by
  have hs := XS.start w
  have HN := Lib.hid hn2
  have HIN := Lib.hid hin
  have HL := Lib.hid (hl2.below hs.b (Nat.le_refl _))
  clear hl2 hn2 hin
  go_enter Tryz.func80, Tryz.ntmps80
  go_wp2_with fail
  generalize World.alloc _ _ = w0 at hs HL ⊢
  go_loop [9] (fun i => ∃ k : Nat, k ≤ n2 ∧ i = .int .i64 k ∧ Hid (∀ j (hj : j < ld.length), j < k → ¬ ld[j].toList = u.toList)) (fun i => n2 - (intOf i).toNat)
  case atStart => exact ⟨0, by omega, rfl, fun j _ h => by omega⟩
  case round =>
    obtain ⟨k, hk, rfl, hv⟩ := hrel
    by_cases hlt : k < n2
    · have hkl : k < ld.length := by rw [HN.out]; exact hlt
      obtain ⟨b, off, rfl, hc⟩ := HL.out k hkl
      obtain ⟨X, hX⟩ : ∃ X, ld[k] = X := ⟨_, rfl⟩
      rw [hX] at hc
      by_cases he : X.toList = u.toList
      · have t1 : (X.toList == u.toList) = true := by rw [he]; simp
        have f0 := hs.r6.f0
        have f1 := hs.r6.f1
        have k0 := hs.r6.c0
        have k1 := hs.r6.c1
        have f2 := hs.r7.f0
        have f3 := hs.r7.f1
        have k2 := hs.r7.c0
        have k3 := hs.r7.c1
        obtain ⟨W', hW', o1, o2, hB⟩ := hs.out (.bool false) (.string ⟨#[]⟩) (.bool false) (.string ⟨#[]⟩)
        clear hX hv
        go_wp2_with fail
        exact bodyPost_w3 rfl rfl rfl rfl o1 o2 rfl ⟨rfl, hB⟩
      · have t1 : (X.toList == u.toList) = false := by simp; exact he
        have HST : Hid (∀ j (hj : j < ld.length), j < k + 1 → ¬ ld[j].toList = u.toList) := fun j hj hjk => by
          by_cases e : j = k
          · subst e; rw [hX]; exact he
          · exact hv.out j hj (by omega)
        clear hX hv
        go_wp2_with fail
        exact ⟨⟨k + 1, by omega, by go_num, HST⟩, by simp [intOf]; omega⟩
    · exfalso
      obtain rfl : k = n2 := by omega
      obtain ⟨x, hx, hd⟩ := List.any_eq_true.1 HIN.out
      obtain ⟨j, hj, rfl⟩ := List.mem_iff_getElem.1 hx
      exact hv.out j hj (by rw [HN.out] at hj; exact hj) (of_decide_eq_true hd)
/-- behind the loop that looks for the handle -/
theorem not_in {u : ByteArray} {ld : List ByteArray} (h : inB u ld = false) {k : Nat} (hk : k < ld.length) : (ld[k].toList == u.toList) = false ∧ ¬ (ld[k].toList = u.toList) := by
  have : ¬ ld[k].toList = u.toList := fun e => by
    have h2 : inB u ld = true := List.any_eq_true.2 ⟨ld[k], List.getElem_mem hk, decide_eq_true e⟩
    rw [h2] at h; cases h
  exact ⟨by simp; exact this, this⟩
set_option maxHeartbeats 4000000 in
theorem rexps_long (u : ByteArray) (a1 a2 : Option Addr) (c1 c2 n1 n2 : Nat) (la ld : List ByteArray) (w : World) (hl1 : NS w a1 la) (hl2 : NS w a2 ld) (hn1 : la.length = n1) (hn2 : ld.length = n2) (h1 : n1 ≤ 30) (h2 : n2 ≤ 30) (hin : inB u ld = false)
    (hp1 : PosN la) (hp2 : PosN ld) (hbad : 128 < blen (pdL (la.map nv)) ∨ 128 < blen (pdL (ld.map nv))) :
    Calls Tryz.prog 80 #[.string u, .slice a1 n1 c1, .slice a2 n2 c2] w fun e w' => e = .returned (.tuple #[.agg #[.bool false, .string ⟨#[]⟩], .agg #[.bool false, .string ⟨#[]⟩], .int .i64 5]) ∧ Below w.heap.size w w' := by
  have HIN := Lib.hid hin
  have HN := Lib.hid hn2
  have HP1 := Lib.hid (fun w h => rprod_any a1 c1 n1 la w h hn1 h1 (fun x hx => (hp1 x hx).1))
  have HP2 := Lib.hid (fun w h => rprod_any a2 c2 n2 ld w h hn2 h2 (fun x hx => (hp2 x hx).1))
  have hs := XS.start w
  have HL1 := Lib.hid (hl1.below hs.b (Nat.le_refl _))
  have HL2 := Lib.hid (hl2.below hs.b (Nat.le_refl _))
  have hv1 := validB_enc (pdL (la.map nv))
  have hv2 := validB_enc (pdL (ld.map nv))
  have hor : (validB (enc (pdL (la.map nv))) = false) ∨ (validB (enc (pdL (la.map nv))) = true ∧ validB (enc (pdL (ld.map nv))) = false) := by
    rw [hv1, hv2]
    by_cases h : 128 < blen (pdL (la.map nv))
    · exact .inl (decide_eq_false (by omega))
    · exact .inr ⟨decide_eq_true (by omega), decide_eq_false (by omega)⟩
  obtain ⟨SA, hSA⟩ : ∃ S, enc (pdL (la.map nv)) = S := ⟨_, rfl⟩
  obtain ⟨SD, hSD⟩ : ∃ S, enc (pdL (ld.map nv)) = S := ⟨_, rfl⟩
  rw [hSA] at HP1
  rw [hSD] at HP2
  rw [hSA, hSD] at hor
  have HOR := Lib.hid hor
  clear hl1 hl2 hn1 hn2 hin hp1 hp2 hbad hSA hSD hv1 hv2 hor
  go_enter Tryz.func80, Tryz.ntmps80
  go_wp2_with fail
  generalize World.alloc _ _ = w0 at hs HL1 HL2 ⊢
  go_loop [9] (fun i => ∃ k : Nat, k ≤ n2 ∧ i = .int .i64 k) (fun i => n2 - (intOf i).toNat)
  case atStart => exact ⟨0, by omega, rfl⟩
  case round =>
    obtain ⟨k, hk, rfl⟩ := hrel
    by_cases hlt : k < n2
    · have hkl : k < ld.length := by rw [HN.out]; exact hlt
      obtain ⟨b, off, rfl, hc⟩ := HL2.out k hkl
      obtain ⟨t1, t2⟩ := not_in HIN.out hkl
      obtain ⟨X, hX⟩ : ∃ X, ld[k] = X := ⟨_, rfl⟩
      rw [hX] at hc t1 t2
      clear hX
      go_wp2_with fail
      exact ⟨⟨k + 1, by omega, by go_num⟩, by simp [intOf]; omega⟩
    · obtain rfl : k = n2 := by omega
      go_wp2_with fail
      refine (HP1.out _ HL1.out).mono ?_; rintro e w2 ⟨rfl, b2⟩
      have hs2 := hs.below b2
      have HL2' := Lib.hid (HL2.out.below b2 (Nat.le_refl _))
      go_wp2_with fail
      refine (HP2.out _ HL2'.out).mono ?_; rintro e w3 ⟨rfl, b3⟩
      have hs3 := hs2.below b3
      clear hs HL1 HL2 b2 hs2 HL2' b3
      have f0 := hs3.r6.f0
      have f1 := hs3.r6.f1
      have k0 := hs3.r6.c0
      have k1 := hs3.r6.c1
      have f2 := hs3.r7.f0
      have f3 := hs3.r7.f1
      have k2 := hs3.r7.c0
      have k3 := hs3.r7.c1
      obtain ⟨W', hW', o1, o2, hB⟩ := hs3.out (.bool false) (.string ⟨#[]⟩) (.bool false) (.string ⟨#[]⟩)
      rcases HOR.out with h | ⟨h, h'⟩
      · have HV := Lib.hid h
        clear h
        go_wp2_with fail
        refine (refValid_any _ _).mono ?_; rw [HV.out]; rintro e w4 ⟨rfl, rfl⟩
        go_wp2_with fail
        exact bodyPost_w3 rfl rfl rfl rfl o1 o2 rfl ⟨rfl, hB⟩
      · have HV := Lib.hid h
        have HV' := Lib.hid h'
        clear h h'
        go_wp2_with fail
        refine (refValid_any _ _).mono ?_; rw [HV.out]; rintro e w4 ⟨rfl, rfl⟩
        go_wp2_with fail
        refine (refValid_any _ _).mono ?_; rw [HV'.out]; rintro e w4 ⟨rfl, rfl⟩
        go_wp2_with fail
        exact bodyPost_w3 rfl rfl rfl rfl o1 o2 rfl ⟨rfl, hB⟩
set_option maxHeartbeats 4000000 in
theorem rexps_gcd (u : ByteArray) (a1 a2 : Option Addr) (c1 c2 n1 n2 : Nat) (la ld : List ByteArray) (w : World) (hu : IsN u (nv u)) (hl1 : NS w a1 la) (hl2 : NS w a2 ld) (hn1 : la.length = n1) (hn2 : ld.length = n2) (h1 : n1 ≤ 30) (h2 : n2 ≤ 30) (hin : inB u ld = false)
    (hp1 : PosN la) (hp2 : PosN ld) (hb1 : blen (pdL (la.map nv)) ≤ 128) (hb2 : blen (pdL (ld.map nv)) ≤ 128) (hg : Nat.gcd (nv u) (pdL (ld.map nv)) ≠ 1) :
    Calls Tryz.prog 80 #[.string u, .slice a1 n1 c1, .slice a2 n2 c2] w fun e w' => e = .returned (.tuple #[.agg #[.bool false, .string ⟨#[]⟩], .agg #[.bool false, .string ⟨#[]⟩], .int .i64 1]) ∧ Below w.heap.size w w' := by
  have HIN := Lib.hid hin
  have HN := Lib.hid hn2
  have HP1 := Lib.hid (fun w h => rprod_any a1 c1 n1 la w h hn1 h1 (fun x hx => (hp1 x hx).1))
  have HP2 := Lib.hid (fun w h => rprod_any a2 c2 n2 ld w h hn2 h2 (fun x hx => (hp2 x hx).1))
  have hd0 := hp2.pd
  have hs := XS.start w
  have HL1 := Lib.hid (hl1.below hs.b (Nat.le_refl _))
  have HL2 := Lib.hid (hl2.below hs.b (Nat.le_refl _))
  obtain ⟨A, hA⟩ : ∃ S, pdL (la.map nv) = S := ⟨_, rfl⟩
  obtain ⟨D, hD⟩ : ∃ S, pdL (ld.map nv) = S := ⟨_, rfl⟩
  rw [hA] at HP1 hb1
  rw [hD] at HP2 hb2 hg hd0
  have HV1 := Lib.hid (IsN.mk' hb1).valid
  have HV2 := Lib.hid (IsN.mk' hb2).valid
  have hx := ref2Ext_z (nv u) D
  rw [← hu.eq] at hx
  have HX := Lib.hid (fun w => hx w hu.le hb2 hd0)
  obtain ⟨e1, e2⟩ := enc_ne hg
  rw [one_list] at e1 e2
  clear hl1 hl2 hn1 hn2 hin hp1 hp2 hb1 hb2 hA hD hg hd0 hu hx
  go_enter Tryz.func80, Tryz.ntmps80
  go_wp2_with fail
  generalize World.alloc _ _ = w0 at hs HL1 HL2 ⊢
  go_loop [9] (fun i => ∃ k : Nat, k ≤ n2 ∧ i = .int .i64 k) (fun i => n2 - (intOf i).toNat)
  case atStart => exact ⟨0, by omega, rfl⟩
  case round =>
    obtain ⟨k, hk, rfl⟩ := hrel
    by_cases hlt : k < n2
    · have hkl : k < ld.length := by rw [HN.out]; exact hlt
      obtain ⟨b, off, rfl, hc⟩ := HL2.out k hkl
      obtain ⟨t1, t2⟩ := not_in HIN.out hkl
      obtain ⟨X, hX⟩ : ∃ X, ld[k] = X := ⟨_, rfl⟩
      rw [hX] at hc t1 t2
      clear hX e1 e2
      go_wp2_with fail
      exact ⟨⟨k + 1, by omega, by go_num⟩, by simp [intOf]; omega⟩
    · obtain rfl : k = n2 := by omega
      go_wp2_with fail
      refine (HP1.out _ HL1.out).mono ?_; rintro e w2 ⟨rfl, b2⟩
      have hs2 := hs.below b2
      have HL2' := Lib.hid (HL2.out.below b2 (Nat.le_refl _))
      go_wp2_with fail
      refine (HP2.out _ HL2'.out).mono ?_; rintro e w3 ⟨rfl, b3⟩
      have hs3 := hs2.below b3
      clear hs HL1 HL2 b2 hs2 HL2' b3
      go_wp2_with fail
      refine (refValid_any _ _).mono ?_; rw [HV1.out]; rintro e w4 ⟨rfl, rfl⟩
      go_wp2_with fail
      refine (refValid_any _ _).mono ?_; rw [HV2.out]; rintro e w4 ⟨rfl, rfl⟩
      go_wp2_with fail
      refine (HX.out _).mono ?_
      rintro e w4 ⟨x, y, rfl, _, _, _, _, b4⟩
      have hs4 := ((hs3.below b4).alloc (.cells #[.bool (zb x), .string (zs x)] 32)).alloc (.cells #[.bool (zb y), .string (zs y)] 32)
      clear hs3 b4
      have f0 := hs4.r6.f0
      have f1 := hs4.r6.f1
      have k0 := hs4.r6.c0
      have k1 := hs4.r6.c1
      have f2 := hs4.r7.f0
      have f3 := hs4.r7.f1
      have k2 := hs4.r7.c0
      have k3 := hs4.r7.c1
      obtain ⟨W', hW', o1, o2, hB⟩ := hs4.out (.bool false) (.string ⟨#[]⟩) (.bool false) (.string ⟨#[]⟩)
      go_wp2_with fail
      exact bodyPost_w3 rfl rfl rfl rfl o1 o2 rfl ⟨rfl, hB⟩
set_option maxHeartbeats 8000000 in
theorem rexps_last (u : ByteArray) (a1 a2 : Option Addr) (c1 c2 n1 n2 : Nat) (la ld : List ByteArray) (w : World) (hu : IsN u (nv u)) (hl1 : NS w a1 la) (hl2 : NS w a2 ld) (hn1 : la.length = n1) (hn2 : ld.length = n2) (h1 : n1 ≤ 30) (h2 : n2 ≤ 30) (hin : inB u ld = false)
    (hp1 : PosN la) (hp2 : PosN ld) (hb1 : blen (pdL (la.map nv)) ≤ 128) (hb2 : blen (pdL (ld.map nv)) ≤ 128) (hg : Nat.gcd (nv u) (pdL (ld.map nv)) = 1)
    (X : Int) (hX : wtX (nv u) (pdL (la.map nv)) (pdL (ld.map nv)) = X) (ok : Bool) (hok : decide (blen X.natAbs ≤ 128) = ok) :
    Calls Tryz.prog 80 #[.string u, .slice a1 n1 c1, .slice a2 n2 c2] w fun e w' => e = .returned (if ok = true then .tuple #[.agg #[.bool (zb X), .string (zs X)], .agg #[.bool (zb (wtY (nv u) (pdL (ld.map nv)) : Int)), .string (zs (wtY (nv u) (pdL (ld.map nv)) : Int))], .int .i64 0]
      else .tuple #[.agg #[.bool false, .string ⟨#[]⟩], .agg #[.bool false, .string ⟨#[]⟩], .int .i64 5]) ∧ Below w.heap.size w w' := by
  have HIN := Lib.hid hin
  have HN := Lib.hid hn2
  have HP1 := Lib.hid (fun w h => rprod_any a1 c1 n1 la w h hn1 h1 (fun x hx => (hp1 x hx).1))
  have HP2 := Lib.hid (fun w h => rprod_any a2 c2 n2 ld w h hn2 h2 (fun x hx => (hp2 x hx).1))
  have hd0 := hp2.pd
  have hs := XS.start w
  have HL1 := Lib.hid (hl1.below hs.b (Nat.le_refl _))
  have HL2 := Lib.hid (hl2.below hs.b (Nat.le_refl _))
  obtain ⟨A, hA⟩ : ∃ S, pdL (la.map nv) = S := ⟨_, rfl⟩
  obtain ⟨D, hD⟩ : ∃ S, pdL (ld.map nv) = S := ⟨_, rfl⟩
  rw [hA, hD] at hX
  rw [hA] at HP1 hb1
  rw [hD] at HP2 hb2 hg hd0 ⊢
  have HV1 := Lib.hid (IsN.mk' hb1).valid
  have HV2 := Lib.hid (IsN.mk' hb2).valid
  have hx := ref2Ext_z (nv u) D
  rw [← hu.eq] at hx
  have HX : Hid (∀ w, Calls Tryz.prog 114 #[.string u, .string (enc D)] w fun e w' => e = .returned (.tuple #[.string (enc 1), .agg #[.bool (zb (wtY (nv u) D : Int)), .string (zs (wtY (nv u) D : Int))], .agg #[.bool (zb (wtB (nv u) D)), .string (zs (wtB (nv u) D))], .int .i64 0]) ∧ Below w.heap.size w w') := fun w => by
    refine (hx w hu.le hb2 hd0).mono ?_
    rintro e w' ⟨x, y, rfl, h1, h2, h3, _, b⟩
    rw [hg] at h1 h3 ⊢
    rw [Nat.div_one] at h3
    obtain ⟨rfl, rfl⟩ := wt_of hd0 hg h1 h2 h3
    exact ⟨rfl, b⟩
  have hyl : blen (wtB (nv u) D).natAbs ≤ 128 := Nat.le_trans (blen_mono (wt_abs hd0 hg)) (blen_max1 hu.le)
  have HT := Lib.hid (fun w => refTimes_any (zs (wtB (nv u) D)) (enc A) _ A w rfl rfl (by show (enc _).size ≤ _; rw [size_enc]; omega) (by rw [size_enc]; omega))
  have hmk := make_sign (wtB (nv u) D) A
  rw [show wtB (nv u) D * (A : Int) = X from hX] at hmk
  have HM := Lib.hid (fun w => refMake_any (zb (wtB (nv u) D)) (enc ((wtB (nv u) D).natAbs * A)) w)
  rw [hmk.1, hmk.2] at HM
  rw [hmk.2] at HT
  have HVX : Hid (validB (zs X) = ok) := by show validB (enc _) = ok; rw [validB_enc]; exact hok
  have q1 : ((enc 1).toList == [1]) = true := by decide +kernel
  have q2 := one_list
  obtain ⟨x, hxx⟩ : ∃ x, (wtY (nv u) D : Int) = x := ⟨_, rfl⟩
  obtain ⟨y, hyy⟩ : ∃ x, wtB (nv u) D = x := ⟨_, rfl⟩
  rw [hxx, hyy] at HX
  rw [hyy] at HT HM
  rw [hxx]
  clear hl1 hl2 hn1 hn2 hin hp1 hp2 hb1 hb2 hA hD hg hd0 hu hx hX hok hmk hyl hxx hyy
  go_enter Tryz.func80, Tryz.ntmps80
  go_wp2_with fail
  generalize World.alloc _ _ = w0 at hs HL1 HL2 ⊢
  go_loop [9] (fun i => ∃ k : Nat, k ≤ n2 ∧ i = .int .i64 k) (fun i => n2 - (intOf i).toNat)
  case atStart => exact ⟨0, by omega, rfl⟩
  case round =>
    obtain ⟨k, hk, rfl⟩ := hrel
    by_cases hlt : k < n2
    · have hkl : k < ld.length := by rw [HN.out]; exact hlt
      obtain ⟨b, off, rfl, hc⟩ := HL2.out k hkl
      obtain ⟨t1, t2⟩ := not_in HIN.out hkl
      obtain ⟨X, hX⟩ : ∃ X, ld[k] = X := ⟨_, rfl⟩
      rw [hX] at hc t1 t2
      clear hX q1 q2
      go_wp2_with fail
      exact ⟨⟨k + 1, by omega, by go_num⟩, by simp [intOf]; omega⟩
    · obtain rfl : k = n2 := by omega
      go_wp2_with fail
      refine (HP1.out _ HL1.out).mono ?_; rintro e w2 ⟨rfl, b2⟩
      have hs2 := hs.below b2
      have HL2' := Lib.hid (HL2.out.below b2 (Nat.le_refl _))
      go_wp2_with fail
      refine (HP2.out _ HL2'.out).mono ?_; rintro e w3 ⟨rfl, b3⟩
      have hs3 := hs2.below b3
      clear hs HL1 HL2 b2 hs2 HL2' b3
      go_wp2_with fail
      refine (refValid_any _ _).mono ?_; rw [HV1.out]; rintro e w4 ⟨rfl, rfl⟩
      go_wp2_with fail
      refine (refValid_any _ _).mono ?_; rw [HV2.out]; rintro e w4 ⟨rfl, rfl⟩
      go_wp2_with fail
      refine (HX.out _).mono ?_
      rintro e w4 ⟨rfl, b4⟩
      have hs4 := hs3.below b4
      have hz1 := (ZBox.new w4 x).alloc (.cells #[.bool (zb y), .string (zs y)] 32)
      have hz2 := ZBox.new (w4.alloc (.cells #[.bool (zb x), .string (zs x)] 32)) y
      rw [World.size_alloc] at hz2
      have ht2 : XT w ((w4.alloc (.cells #[.bool (zb x), .string (zs x)] 32)).alloc (.cells #[.bool (zb y), .string (zs y)] 32)) w4.heap.size x y := ⟨(hs4.alloc _).alloc _, hz1, hz2, hs4.r7.lt⟩
      clear hs3 b4 hs4 hz1 hz2 HX HP1 HP2 HV1 HV2
      go_wp2_with fail
      generalize w4.heap.size = p at ht2 ⊢
      generalize World.alloc _ _ = w6 at ht2 ⊢
      clear q1 q2
      go_cut [16] from 57 (fun s16 wc => ∃ b : Nat, s16 = .pointer (some ⟨b, 0, none⟩) ∧ IBx wc b (zb X) (zs X) ∧ XT w wc p x y)
      case first =>
        have hSd : XT w w6.drew p x y := ht2.drew
        have c0 := hSd.zy.c0
        have c1 := hSd.zy.c1
        have hS1 : XT w (w6.alloc (.cells #[.bool false, .string ⟨#[]⟩] 32)).drew p x y := (ht2.alloc _).drew
        have a0 : (w6.alloc (.cells #[.bool false, .string ⟨#[]⟩] 32)).drew.cell? ⟨p + 1, 0, none⟩ = some (.bool (zb y)) := hS1.zy.c0
        have a1 : (w6.alloc (.cells #[.bool false, .string ⟨#[]⟩] 32)).drew.cell? ⟨p + 1, 1, none⟩ = some (.string (zs y)) := hS1.zy.c1
        have a2 : (w6.alloc (.cells #[.bool false, .string ⟨#[]⟩] 32)).cell? ⟨p + 1, 0, none⟩ = some (.bool (zb y)) := hS1.zy.c0
        have a3 : (w6.alloc (.cells #[.bool false, .string ⟨#[]⟩] 32)).cell? ⟨p + 1, 1, none⟩ = some (.string (zs y)) := hS1.zy.c1
        have hp2 : p + 1 < w6.heap.size := ht2.zy.lt
        -- {{
        go_region_with (first
          | ((with_reducible refine (HT.out _).mono ?_); rintro e w7 ⟨rfl, b7⟩; (first | have hS5 := hSd.below b7 | have hS5 := hS1.below b7); (first | (have r5 : RBox w7 w6.heap.size := (RBox.new w6).drew.below b7 (RBox.new w6).lt) | skip); have z5 := b7.size; have d0 := hS5.zy.c0; have d1 := hS5.zy.c1; have t5 := hS5.alloc (.cells #[.bool false, .string ⟨#[]⟩] 32); have g0 := t5.zy.c0; have g1 := t5.zy.c1)
          | ((with_reducible refine (HM.out _).mono ?_); rintro e w8 ⟨rfl, b8⟩; (first | have hS6 := hS5.below b8 | have hS6 := (hS5.alloc _).below b8); (first | have r6 := r5.below b8 r5.lt | have r6 := (RBox.new _).below b8 (by simp) | have r6 := trivial); (first | (have f0 := r6.f0; have f1 := r6.f1; have e0 := r6.c0; have e1 := r6.c1) | skip)))
        all_goals (go_wp2_with fail; go_meet)
        all_goals first
          | exact ⟨_, rfl, put2 r6, hS6.put (by have := ht2.zy.lt; have := hS5.zy.lt; simp at *; omega) _ _⟩
          | exact ⟨_, rfl, heap_alloc_new _ _, hS6.alloc _⟩
          | exact ⟨_, rfl, put2 (RBox.new _), (hS6.alloc _).put (by have := hS6.zy.lt; simp at *; omega) _ _⟩
        -- }}
      case rest =>
        clear ht2
        obtain ⟨b, rfl, hb, ht⟩ := hcut
        rename World => wm
        have f0 := ht.xs.r6.f0
        have f1 := ht.xs.r6.f1
        have k0 := ht.xs.r6.c0
        have k1 := ht.xs.r6.c1
        have f2 := ht.xs.r7.f0
        have f3 := ht.xs.r7.f1
        have k2 := ht.xs.r7.c0
        have k3 := ht.xs.r7.c1
        have m0 := hb.c0
        have m1 := hb.c1
        cases ok
        · obtain ⟨W', hW', o1, o2, hB⟩ := ht.xs.out (.bool false) (.string ⟨#[]⟩) (.bool false) (.string ⟨#[]⟩)
          go_wp2_with fail
          refine (refValid_any _ _).mono ?_; rw [HVX.out]; rintro e w4 ⟨rfl, rfl⟩
          go_wp2_with fail
          exact bodyPost_w3 rfl rfl rfl rfl o1 o2 rfl ⟨rfl, hB⟩
        · have l0 := ht.zx.c0
          have l1 := ht.zx.c1
          have q1 : p ≠ w.heap.size := by have := ht.hp; omega
          have q2 : p ≠ w.heap.size + 1 := by have := ht.hp; omega
          go_wp2_with fail
          refine (refValid_any _ _).mono ?_; rw [HVX.out]; rintro e w4 ⟨rfl, rfl⟩
          go_wp2_with fail
          go_region
          obtain ⟨W', hW', o1, o2, hB⟩ := ht.xs.out (.bool (zb X)) (.string (zs X)) (.bool (zb x)) (.string (zs x))
          go_wp2_with fail
          exact bodyPost_w3 rfl rfl rfl rfl o1 o2 rfl ⟨by simp, hB.drew⟩
theorem rexponents_any (u : ByteArray) (a1 a2 : Option Addr) (c1 c2 n1 n2 : Nat) (la ld : List ByteArray) (w : World) (hu : IsN u (nv u)) (hl1 : NS w a1 la) (hl2 : NS w a2 ld) (hn1 : la.length = n1) (hn2 : ld.length = n2) (h1 : n1 ≤ 30) (h2 : n2 ≤ 30)
    (hp1 : PosN la) (hp2 : PosN ld) :
    Calls Tryz.prog 80 #[.string u, .slice a1 n1 c1, .slice a2 n2 c2] w (XR u la ld w) := by
  by_cases hin : inB u ld = true
  · exact (rexps_in u a1 a2 c1 c2 n1 n2 ld w hl2 hn2 (by omega) hin).mono fun e w' h => XR.bad (wxE_in hin) (by decide) h
  have hin' : inB u ld = false := by simpa using hin
  by_cases hb : 128 < blen (pdL (la.map nv)) ∨ 128 < blen (pdL (ld.map nv))
  · exact (rexps_long u a1 a2 c1 c2 n1 n2 la ld w hl1 hl2 hn1 hn2 h1 h2 hin' hp1 hp2 hb).mono fun e w' h => XR.bad (wxE_long hin hb) (by decide) h
  by_cases hg : Nat.gcd (nv u) (pdL (ld.map nv)) = 1
  rotate_left
  · exact (rexps_gcd u a1 a2 c1 c2 n1 n2 la ld w hu hl1 hl2 hn1 hn2 h1 h2 hin' hp1 hp2 (by omega) (by omega) hg).mono fun e w' h => XR.bad (wxE_gcd hin hb hg) (by decide) h
  by_cases ho : 128 < blen (wtX (nv u) (pdL (la.map nv)) (pdL (ld.map nv))).natAbs
  · refine (rexps_last u a1 a2 c1 c2 n1 n2 la ld w hu hl1 hl2 hn1 hn2 h1 h2 hin' hp1 hp2 (by omega) (by omega) hg _ rfl false (decide_eq_false (by omega))).mono fun e w' h => XR.bad (wxE_over hin hb hg ho) (by decide) ?_
    rw [if_neg (by decide)] at h
    exact h
  · refine (rexps_last u a1 a2 c1 c2 n1 n2 la ld w hu hl1 hl2 hn1 hn2 h1 h2 hin' hp1 hp2 (by omega) (by omega) hg _ rfl true (decide_eq_true (by omega))).mono fun e w' h => ?_
    rw [if_pos rfl] at h
    unfold XR
    rw [wxX, wxY, wxE_ok hin hb hg ho, zif_zero, zif_zero]
    exact h
end Go.Proofs.YtcjbbneiobnmkaaGreat

/- The reference of layer 36: Exponents. -/
namespace Go.Proofs.YtcjbbneiobnmkaaGreat
open Go.RowKit Num
set_option maxRecDepth 20000
set_option linter.unusedVariables false
theorem all3 (u : ByteArray) (la ld : List ByteArray) (p : ByteArray → Bool) : (u :: (la ++ ld)).all p = (p u && (la.all p && ld.all p)) := by simp
set_option maxHeartbeats 4000000 in
theorem rExponents_any (u : ByteArray) (a1 a2 : Option Addr) (c1 c2 n1 n2 : Nat) (la ld : List ByteArray) (w : World) (hl1 : NS w a1 la) (hl2 : NS w a2 ld) (hn1 : la.length = n1) (hn2 : ld.length = n2) (h1 : n1 ≤ 30) (h2 : n2 ≤ 30) :
    Calls Tryz.prog 37 #[.string u, .slice a1 n1 c1, .slice a2 n2 c2] w (XG u la ld w) := by
  have hs := XS.start w
  have HL1 := Lib.hid (hl1.below hs.b (Nat.le_refl _))
  have HL2 := Lib.hid (hl2.below hs.b (Nat.le_refl _))
  have HF1 := Lib.hid (fun w h => rformed_any a1 c1 n1 la w h hn1 (by unfold maxLen; omega))
  have HF2 := Lib.hid (fun w h => rformed_any a2 c2 n2 ld w h hn2 (by unfold maxLen; omega))
  have HZ1 := Lib.hid (fun w h => rzero_any a1 c1 n1 la w h hn1 (by unfold maxLen; omega))
  have HZ2 := Lib.hid (fun w h => rzero_any a2 c2 n2 ld w h hn2 (by unfold maxLen; omega))
  have hall := all3 u la ld validB
  have hallz : nzB (u :: (la ++ ld)) = ((!u.toList.isEmpty) && (nzB la && nzB ld)) := all3 u la ld _
  have HE := Lib.hid (fun (hP : PosN (u :: (la ++ ld))) w a b => rexponents_any u a1 a2 c1 c2 n1 n2 la ld w (hP u (by simp)).1 a b hn1 hn2 h1 h2 (show PosN (la ++ ld) from fun x hx => hP x (List.mem_cons_of_mem _ hx)).left (show PosN (la ++ ld) from fun x hx => hP x (List.mem_cons_of_mem _ hx)).right)
  have H3 : Hid ((u :: (la ++ ld)).all validB = false → gxE u la ld = 3) := fun h => if_neg (by rw [h]; decide)
  have H11 : Hid ((u :: (la ++ ld)).all validB = true → nzB (u :: (la ++ ld)) = false → gxE u la ld = 11) := fun h h' => by unfold gxE; rw [if_pos h, if_neg (by rw [h']; decide)]
  clear hl1 hl2 hn1 hn2 h1 h2
  cases hvu : validB u
  · have HC := Lib.hid (H3.out (by rw [hall, hvu]; rfl))
    have HV := Lib.hid hvu
    clear hvu hall hallz H3 H11 HE
    go_enter Tryz.func37, Tryz.ntmps37
    go_wp2_with fail
    generalize World.alloc _ _ = w0 at hs HL1 HL2 ⊢
    have f0 := hs.r6.f0
    have f1 := hs.r6.f1
    have k0 := hs.r6.c0
    have k1 := hs.r6.c1
    have f2 := hs.r7.f0
    have f3 := hs.r7.f1
    have k2 := hs.r7.c0
    have k3 := hs.r7.c1
    obtain ⟨W', hW', o1, o2, hB⟩ := hs.out (.bool false) (.string ⟨#[]⟩) (.bool false) (.string ⟨#[]⟩)
    refine (refValid_any _ _).mono ?_; rw [HV.out]; rintro e w1 ⟨rfl, rfl⟩
    go_wp2_with fail
    exact bodyPost_w3 rfl rfl rfl rfl o1 o2 rfl (XG.bad HC.out (by decide) ⟨rfl, hB⟩)
  have HV := Lib.hid hvu
  cases hva : la.all validB
  · have HC := Lib.hid (H3.out (by rw [hall, hvu, hva]; rfl))
    rw [hva] at HF1
    clear hvu hva hall hallz H3 H11 HE
    go_enter Tryz.func37, Tryz.ntmps37
    go_wp2_with fail
    generalize World.alloc _ _ = w0 at hs HL1 HL2 ⊢
    have f0 := hs.r6.f0
    have f1 := hs.r6.f1
    have k0 := hs.r6.c0
    have k1 := hs.r6.c1
    have f2 := hs.r7.f0
    have f3 := hs.r7.f1
    have k2 := hs.r7.c0
    have k3 := hs.r7.c1
    obtain ⟨W', hW', o1, o2, hB⟩ := hs.out (.bool false) (.string ⟨#[]⟩) (.bool false) (.string ⟨#[]⟩)
    refine (refValid_any _ _).mono ?_; rw [HV.out]; rintro e w1 ⟨rfl, rfl⟩
    go_wp2_with fail
    refine (HF1.out _ HL1.out).mono ?_; rintro e w1 ⟨rfl, rfl⟩
    go_wp2_with fail
    exact bodyPost_w3 rfl rfl rfl rfl o1 o2 rfl (XG.bad HC.out (by decide) ⟨rfl, hB⟩)
  rw [hva] at HF1
  cases hvd : ld.all validB
  · have HC := Lib.hid (H3.out (by rw [hall, hvu, hva, hvd]; rfl))
    rw [hvd] at HF2
    clear hvu hva hvd hall hallz H3 H11 HE
    go_enter Tryz.func37, Tryz.ntmps37
    go_wp2_with fail
    generalize World.alloc _ _ = w0 at hs HL1 HL2 ⊢
    have f0 := hs.r6.f0
    have f1 := hs.r6.f1
    have k0 := hs.r6.c0
    have k1 := hs.r6.c1
    have f2 := hs.r7.f0
    have f3 := hs.r7.f1
    have k2 := hs.r7.c0
    have k3 := hs.r7.c1
    obtain ⟨W', hW', o1, o2, hB⟩ := hs.out (.bool false) (.string ⟨#[]⟩) (.bool false) (.string ⟨#[]⟩)
    refine (refValid_any _ _).mono ?_; rw [HV.out]; rintro e w1 ⟨rfl, rfl⟩
    go_wp2_with fail
    refine (HF1.out _ HL1.out).mono ?_; rintro e w1 ⟨rfl, rfl⟩
    go_wp2_with fail
    refine (HF2.out _ HL2.out).mono ?_; rintro e w1 ⟨rfl, rfl⟩
    go_wp2_with fail
    exact bodyPost_w3 rfl rfl rfl rfl o1 o2 rfl (XG.bad HC.out (by decide) ⟨rfl, hB⟩)
  rw [hvd] at HF2
  have hv3 : (u :: (la ++ ld)).all validB = true := by rw [hall, hvu, hva, hvd]; rfl
  clear hall hvu hva hvd H3
  by_cases hu0 : u.size = 0
  · obtain rfl : u = ⟨#[]⟩ := by cases u with | mk d => simp [ByteArray.size] at hu0; simp [hu0]
    have HC := Lib.hid (H11.out hv3 (by rw [hallz, show (⟨#[]⟩ : ByteArray).toList.isEmpty = true by decide +kernel]; rfl))
    clear hu0 hallz H11 HE hv3
    go_enter Tryz.func37, Tryz.ntmps37
    go_wp2_with fail
    generalize World.alloc _ _ = w0 at hs HL1 HL2 ⊢
    have f0 := hs.r6.f0
    have f1 := hs.r6.f1
    have k0 := hs.r6.c0
    have k1 := hs.r6.c1
    have f2 := hs.r7.f0
    have f3 := hs.r7.f1
    have k2 := hs.r7.c0
    have k3 := hs.r7.c1
    obtain ⟨W', hW', o1, o2, hB⟩ := hs.out (.bool false) (.string ⟨#[]⟩) (.bool false) (.string ⟨#[]⟩)
    refine (refValid_any _ _).mono ?_; rw [HV.out]; rintro e w1 ⟨rfl, rfl⟩
    go_wp2_with fail
    refine (HF1.out _ HL1.out).mono ?_; rintro e w1 ⟨rfl, rfl⟩
    go_wp2_with fail
    refine (HF2.out _ HL2.out).mono ?_; rintro e w1 ⟨rfl, rfl⟩
    go_wp2_with fail
    exact bodyPost_w3 rfl rfl rfl rfl o1 o2 rfl (XG.bad HC.out (by decide) ⟨rfl, hB⟩)
  obtain ⟨n1, n2⟩ := tl_ne hu0
  rw [n2] at hallz
  cases hza : nzB la
  · have HC := Lib.hid (H11.out hv3 (by rw [hallz, hza]; rfl))
    unfold nzB at hza
    rw [hza] at HZ1
    clear hu0 hallz H11 HE hv3 hza
    go_enter Tryz.func37, Tryz.ntmps37
    go_wp2_with fail
    generalize World.alloc _ _ = w0 at hs HL1 HL2 ⊢
    have f0 := hs.r6.f0
    have f1 := hs.r6.f1
    have k0 := hs.r6.c0
    have k1 := hs.r6.c1
    have f2 := hs.r7.f0
    have f3 := hs.r7.f1
    have k2 := hs.r7.c0
    have k3 := hs.r7.c1
    obtain ⟨W', hW', o1, o2, hB⟩ := hs.out (.bool false) (.string ⟨#[]⟩) (.bool false) (.string ⟨#[]⟩)
    refine (refValid_any _ _).mono ?_; rw [HV.out]; rintro e w1 ⟨rfl, rfl⟩
    go_wp2_with fail
    refine (HF1.out _ HL1.out).mono ?_; rintro e w1 ⟨rfl, rfl⟩
    go_wp2_with fail
    refine (HF2.out _ HL2.out).mono ?_; rintro e w1 ⟨rfl, rfl⟩
    go_wp2_with fail
    refine (HZ1.out _ HL1.out).mono ?_; rintro e w1 ⟨rfl, rfl⟩
    go_wp2_with fail
    exact bodyPost_w3 rfl rfl rfl rfl o1 o2 rfl (XG.bad HC.out (by decide) ⟨rfl, hB⟩)
  have hza' := hza
  unfold nzB at hza'
  rw [hza'] at HZ1
  cases hzd : nzB ld
  · have HC := Lib.hid (H11.out hv3 (by rw [hallz, hza, hzd]; rfl))
    unfold nzB at hzd
    rw [hzd] at HZ2
    clear hu0 hallz H11 HE hv3 hza hzd hza'
    go_enter Tryz.func37, Tryz.ntmps37
    go_wp2_with fail
    generalize World.alloc _ _ = w0 at hs HL1 HL2 ⊢
    have f0 := hs.r6.f0
    have f1 := hs.r6.f1
    have k0 := hs.r6.c0
    have k1 := hs.r6.c1
    have f2 := hs.r7.f0
    have f3 := hs.r7.f1
    have k2 := hs.r7.c0
    have k3 := hs.r7.c1
    obtain ⟨W', hW', o1, o2, hB⟩ := hs.out (.bool false) (.string ⟨#[]⟩) (.bool false) (.string ⟨#[]⟩)
    refine (refValid_any _ _).mono ?_; rw [HV.out]; rintro e w1 ⟨rfl, rfl⟩
    go_wp2_with fail
    refine (HF1.out _ HL1.out).mono ?_; rintro e w1 ⟨rfl, rfl⟩
    go_wp2_with fail
    refine (HF2.out _ HL2.out).mono ?_; rintro e w1 ⟨rfl, rfl⟩
    go_wp2_with fail
    refine (HZ1.out _ HL1.out).mono ?_; rintro e w1 ⟨rfl, rfl⟩
    go_wp2_with fail
    refine (HZ2.out _ HL2.out).mono ?_; rintro e w1 ⟨rfl, rfl⟩
    go_wp2_with fail
    exact bodyPost_w3 rfl rfl rfl rfl o1 o2 rfl (XG.bad HC.out (by decide) ⟨rfl, hB⟩)
  have hz3 : nzB (u :: (la ++ ld)) = true := by rw [hallz, hza, hzd]; rfl
  have hzd' := hzd
  unfold nzB at hzd'
  rw [hzd'] at HZ2
  have HEE := Lib.hid (HE.out (posN_of hv3 hz3))
  have HOK : Hid (∀ e w', XR u la ld w e w' → XG u la ld w e w') := fun e w' h => XG.ok hv3 hz3 h
  obtain ⟨X, hX⟩ : ∃ X, wxX u la ld = X := ⟨_, rfl⟩
  obtain ⟨Y, hY⟩ : ∃ X, wxY u la ld = X := ⟨_, rfl⟩
  obtain ⟨E, hE⟩ : ∃ X, wxE u la ld = X := ⟨_, rfl⟩
  unfold XR at HEE HOK
  rw [hX, hY, hE] at HEE HOK
  clear hu0 hallz H11 HE hv3 hza hza' hzd hzd' hz3 hX hY hE
  go_enter Tryz.func37, Tryz.ntmps37
  go_wp2_with fail
  generalize World.alloc _ _ = w0 at hs HL1 HL2 ⊢
  refine (refValid_any _ _).mono ?_; rw [HV.out]; rintro e w1 ⟨rfl, rfl⟩
  go_wp2_with fail
  refine (HF1.out _ HL1.out).mono ?_; rintro e w1 ⟨rfl, rfl⟩
  go_wp2_with fail
  refine (HF2.out _ HL2.out).mono ?_; rintro e w1 ⟨rfl, rfl⟩
  go_wp2_with fail
  refine (HZ1.out _ HL1.out).mono ?_; rintro e w1 ⟨rfl, rfl⟩
  go_wp2_with fail
  refine (HZ2.out _ HL2.out).mono ?_; rintro e w1 ⟨rfl, rfl⟩
  go_wp2_with fail
  refine (HEE.out _ HL1.out HL2.out).mono ?_; rintro e w5 ⟨rfl, b5⟩
  have hs3 := hs.below b5
  have f0 := hs3.r6.f0
  have f1 := hs3.r6.f1
  have k0 := hs3.r6.c0
  have k1 := hs3.r6.c1
  have f2 := hs3.r7.f0
  have f3 := hs3.r7.f1
  have k2 := hs3.r7.c0
  have k3 := hs3.r7.c1
  obtain ⟨W', hW', o1, o2, hB⟩ := hs3.out (.bool (zb X)) (.string (zs X)) (.bool (zb Y)) (.string (zs Y))
  go_wp2_with fail
  exact bodyPost_w3 rfl rfl rfl rfl o1 o2 rfl (HOK.out _ _ ⟨rfl, hB⟩)
end Go.Proofs.YtcjbbneiobnmkaaGreat
