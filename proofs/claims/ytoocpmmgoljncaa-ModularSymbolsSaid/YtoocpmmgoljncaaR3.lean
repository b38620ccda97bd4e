/- The reference of layer 3: check, Mod, Add, Sub, times, Mul, Jacobi. -/
import Derived.Test.YtoocpmmgoljncaaJac
namespace Go.Proofs.Ytoocpmmgoljncaa
open Go.RowKit Num
set_option maxRecDepth 20000
set_option linter.unusedVariables false
set_option maxHeartbeats 1000000 in
theorem refCheck_any (w : World) (b k : Nat) (ls : List ByteArray) (m : ByteArray) (h : StrAt w b (ls ++ [m])) (hk : k = ls.length + 1) (l1 : k ≤ 1000) :
    Calls Try.prog 37 #[.slice (some ⟨b, 0, none⟩) k k] w fun e w' => e = .returned (.int .i64 (chk ls [m])) ∧ w = w' := by
  have hl : (ls ++ [m]).length = k := by simp [hk]
  have hlast : (ls ++ [m])[k - 1]? = some m := by rw [hk]; simp
  have H := Lib.hid h
  have HL := Lib.hid hl
  have HLA := Lib.hid hlast
  have HK := Lib.hid hk
  clear h hl hlast hk
  go_enter Try.func37, Try.ntmps37
  go_wp2_with fail
  go_loop [3] (fun i => ∃ j : Nat, j ≤ k ∧ i = .int .i64 j ∧ Hid (∀ i (h : i < (ls ++ [m]).length), i < j → validB (ls ++ [m])[i] = true)) (fun i => k - (intOf i).toNat)
  case atStart => exact ⟨0, by omega, rfl, fun i h h2 => by omega⟩
  case round =>
    obtain ⟨j, hj, rfl, hv⟩ := hrel
    by_cases hlt : j < k
    · have hjl : j < (ls ++ [m]).length := by rw [HL.out]; exact hlt
      obtain ⟨x, hx⟩ : ∃ x, (ls ++ [m])[j] = x := ⟨_, rfl⟩
      have hc : w.cell? ⟨b, j, none⟩ = some (.string x) := by rw [← hx]; exact H.out j hjl
      by_cases hvx : validB x = true
      · have hst : Hid (∀ i (h : i < (ls ++ [m]).length), i < j + 1 → validB (ls ++ [m])[i] = true) := fun i h hi => by
          by_cases e : i = j
          · subst e; rw [hx]; exact hvx
          · exact hv.out i h (by omega)
        have HVX := Lib.hid hvx
        clear hvx hv hx hjl
        go_wp2_with fail
        refine (refValid_any x _).mono ?_
        rw [HVX.out]
        rintro e w' ⟨rfl, rfl⟩
        go_wp2_with fail
        exact ⟨⟨j + 1, by omega, by go_num, hst⟩, by simp [intOf]; omega⟩
      · have hvx' : validB x = false := by simpa using hvx
        have hb := chk_bad (ls := ls) (ms := [m]) hjl (by rw [hx]; exact hvx')
        have HVX := Lib.hid hvx'
        have HB := Lib.hid hb
        clear hvx hvx' hv hx hjl hb
        go_wp2_with fail
        refine (refValid_any x _).mono ?_
        rw [HVX.out]
        rintro e w' ⟨rfl, rfl⟩
        go_wp2_with fail
        go_ret
        exact ⟨ret_int HB.out.symm, rfl⟩
    · obtain rfl : j = k := by omega
      have hg := chk_good (ls := ls) (ms := [m]) (fun i hi => hv.out i hi (by rw [HL.out] at hi; exact hi))
      have hp : 0 < j := by have := HK.out; omega
      have hc : w.cell? ⟨b, j - 1, none⟩ = some (.string m) := by
        have := H.out (j - 1) (by rw [HL.out]; omega)
        rw [this]
        have h2 := HLA.out
        rw [List.getElem?_eq_getElem (by rw [HL.out]; omega)] at h2
        injection h2 with h2
        rw [h2]
      by_cases h0 : m.size = 0
      · have e1 : m = ⟨#[]⟩ := by cases m with | mk d => simp [ByteArray.size] at h0; simp [h0]
        subst e1
        have hg2 : chk ls [⟨#[]⟩] = 11 := by rw [hg]; rfl
        have HG := Lib.hid hg2
        clear hg hg2 hv
        go_wp2_with fail
        go_ret
        exact ⟨ret_int HG.out.symm, rfl⟩
      · obtain ⟨n1, n2⟩ := toList_ne h0
        have hg2 : chk ls [m] = 0 := by rw [hg, if_neg]; simp; exact fun e => h0 (by rw [e]; rfl)
        have HG := Lib.hid hg2
        clear hg hg2 hv
        go_wp2_with fail
        go_ret
        exact ⟨ret_int HG.out.symm, rfl⟩
theorem StrAt.lit0 (w : World) (T : TypeId) (l : List ByteArray) : StrAt (w.alloc (.cells (l.map Value.string).toArray T)) w.heap.size l := by
  intro j hj
  rw [World.cell?_alloc_new]
  simp [hj]
theorem refCheck3 (w : World) (x y m : ByteArray) :
    Calls Try.prog 37 #[.slice (some ⟨w.heap.size, 0, none⟩) 3 3] (w.alloc (.cells #[.string x, .string y, .string m] 24)) fun e w' => e = .returned (.int .i64 (chk [x, y] [m])) ∧ Below w.heap.size w w' :=
  (refCheck_any (w.alloc (.cells #[.string x, .string y, .string m] 24)) w.heap.size 3 [x, y] m (StrAt.lit0 w _ [x, y, m]) rfl (by omega)).mono
    fun _ _ h => ⟨h.1, by rw [← h.2]; exact (Below.refl _ w).alloc (Nat.le_refl _) _⟩
theorem refCheck2 (w : World) (x m : ByteArray) :
    Calls Try.prog 37 #[.slice (some ⟨w.heap.size, 0, none⟩) 2 2] (w.alloc (.cells #[.string x, .string m] 24)) fun e w' => e = .returned (.int .i64 (chk [x] [m])) ∧ Below w.heap.size w w' :=
  (refCheck_any (w.alloc (.cells #[.string x, .string m] 24)) w.heap.size 2 [x] m (StrAt.lit0 w _ [x, m]) rfl (by omega)).mono
    fun _ _ h => ⟨h.1, by rw [← h.2]; exact (Below.refl _ w).alloc (Nat.le_refl _) _⟩
theorem refMod_any (s v : ByteArray) (a m : Nat) (w : World) (hs : IsN s a) (hv : IsN v m) (h0 : 0 < m) :
    Calls Try.prog 23 #[.string s, .string v] w fun e w' => e = .returned (.string (enc (a % m))) ∧ Below w.heap.size w w' := by
  have HS := Lib.hid hs; clear hs
  have HV := Lib.hid hv; clear hv
  go_enter Try.func23, Try.ntmps23
  go_wp2_with fail
  refine (refDivMod_any _ _ _ _ _ HS.out HV.out h0).mono ?_; rintro e w2 ⟨rfl, hb2⟩
  go_wp2_with fail
  go_ret
  exact ⟨rfl, hb2⟩
theorem blen_pow {n k : Nat} (h : n < 256 ^ k) (hk : k ≤ 128) : blen n ≤ 128 := Nat.le_trans ((blen_le_iff n k).2 h) hk
theorem rem_lt {v : ByteArray} {m : Nat} (hv : IsN v m) (h0 : 0 < m) (h64 : v.size ≤ 64) (a : Nat) : a % m < m ∧ m < 256 ^ 64 := by
  refine ⟨Nat.mod_lt _ h0, ?_⟩
  rw [← blen_le_iff, ← hv.size]
  exact h64
set_option maxHeartbeats 1000000 in
theorem refMAdd_any (s t v : ByteArray) (w : World) (h64 : v.size ≤ 64) :
    Calls Try.prog 17 #[.string s, .string t, .string v] w fun e w' => e = .returned (.tuple #[.string (mo (chk [s, t] [v]) ((nv s + nv t) % nv v)), .int .i64 (chk [s, t] [v])]) ∧ Below w.heap.size w w' := by
  have hc := chk_cases [s, t] [v]
  by_cases h0 : chk [s, t] [v] = 0
  · obtain ⟨hs, ht, hv, hp⟩ := chk21_inv h0
    rw [h0, mo_zero]
    obtain ⟨r1, r3⟩ := rem_lt hv hp h64 (nv s)
    obtain ⟨r2, _⟩ := rem_lt hv hp h64 (nv t)
    have hsum : blen (nv s % nv v + nv t % nv v) ≤ 128 := blen_pow (k := 65) (by rw [Nat.pow_succ]; omega) (by omega)
    have hfin : (nv s % nv v + nv t % nv v) % nv v = (nv s + nv t) % nv v := (Nat.add_mod _ _ _).symm
    have HF := Lib.hid (And.intro (fitS_ok hsum) (fitE_ok hsum))
    have HN := Lib.hid (IsN.mk' hsum)
    have HFIN := Lib.hid hfin
    have HS := Lib.hid hs
    have HT := Lib.hid ht
    have HV := Lib.hid hv
    have HK := Lib.hid h0
    have H1 := Lib.hid (IsN.mk' (mod_le (a := nv s) hv hp))
    have H2 := Lib.hid (IsN.mk' (mod_le (a := nv t) hv hp))
    clear hc h0 hs ht hv r1 r2 r3 hsum hfin h64
    go_enter Try.func17, Try.ntmps17
    go_wp2_with fail
    refine (refCheck3 w s t v).mono ?_; rintro e w1 ⟨rfl, hb1⟩
    rw [HK.out]
    go_wp2_with fail
    refine (refMod_any _ _ _ _ _ HS.out HV.out hp).mono ?_; rintro e w2 ⟨rfl, hb2⟩
    replace hb1 := bbl hb1 hb2
    clear hb2
    go_wp2_with fail
    refine (refMod_any _ _ _ _ _ HT.out HV.out hp).mono ?_; rintro e w3 ⟨rfl, hb3⟩
    replace hb1 := bbl hb1 hb3
    clear hb3
    go_wp2_with fail
    refine (refAdd_any _ _ _ _ _ H1.out H2.out).mono ?_; rw [HF.out.1, HF.out.2]; rintro e w4 ⟨rfl, hb4⟩
    replace hb1 := bbl hb1 hb4
    clear hb4
    go_wp2_with fail
    refine (refMod_any _ _ _ _ _ HN.out HV.out hp).mono ?_; rw [HFIN.out]; rintro e w5 ⟨rfl, hb5⟩
    replace hb1 := bbl hb1 hb5
    clear hb5
    go_wp2_with fail
    go_ret2
    exact ⟨rfl, hb1⟩
  · rw [mo_bad h0]
    have hk : chk [s, t] [v] = 3 ∨ chk [s, t] [v] = 11 := hc.resolve_left h0
    clear hc h0
    rcases hk with hk | hk
    all_goals
      rw [hk]
      have HK := Lib.hid hk
      clear hk
      go_enter Try.func17, Try.ntmps17
      go_wp2_with fail
      refine (refCheck3 w s t v).mono ?_; rintro e w1 ⟨rfl, hb1⟩
      rw [HK.out]
      go_wp2_with fail
      go_ret2
      exact ⟨rfl, hb1⟩
set_option maxHeartbeats 1000000 in
theorem refMSub_any (s t v : ByteArray) (w : World) (h64 : v.size ≤ 64) :
    Calls Try.prog 19 #[.string s, .string t, .string v] w fun e w' => e = .returned (.tuple #[.string (mo (chk [s, t] [v]) ((nv s + (nv v - nv t % nv v)) % nv v)), .int .i64 (chk [s, t] [v])]) ∧ Below w.heap.size w w' := by
  have hc := chk_cases [s, t] [v]
  by_cases h0 : chk [s, t] [v] = 0
  · obtain ⟨hs, ht, hv, hp⟩ := chk21_inv h0
    rw [h0, mo_zero]
    obtain ⟨r1, r3⟩ := rem_lt hv hp h64 (nv s)
    obtain ⟨r2, _⟩ := rem_lt hv hp h64 (nv t)
    have hsum : blen (nv s % nv v + nv v) ≤ 128 := blen_pow (k := 65) (by rw [Nat.pow_succ]; omega) (by omega)
    have hdif : blen (nv s % nv v + nv v - nv t % nv v) ≤ 128 := Nat.le_trans (blen_mono (Nat.sub_le _ _)) hsum
    have hfin : (nv s % nv v + nv v - nv t % nv v) % nv v = (nv s + (nv v - nv t % nv v)) % nv v := by
      rw [Nat.add_sub_assoc (by omega), Nat.mod_add_mod]
    have HF := Lib.hid (And.intro (fitS_ok hsum) (fitE_ok hsum))
    have HN := Lib.hid (IsN.mk' hsum)
    have HD := Lib.hid (IsN.mk' hdif)
    have HFIN := Lib.hid hfin
    have HLE := Lib.hid (show nv t % nv v ≤ nv s % nv v + nv v by omega)
    have HS := Lib.hid hs
    have HT := Lib.hid ht
    have HV := Lib.hid hv
    have HK := Lib.hid h0
    have H1 := Lib.hid (IsN.mk' (mod_le (a := nv s) hv hp))
    have H2 := Lib.hid (IsN.mk' (mod_le (a := nv t) hv hp))
    clear hc h0 hs ht hv r1 r2 r3 hsum hfin h64 hdif
    go_enter Try.func19, Try.ntmps19
    go_wp2_with fail
    refine (refCheck3 w s t v).mono ?_; rintro e w1 ⟨rfl, hb1⟩
    rw [HK.out]
    go_wp2_with fail
    refine (refMod_any _ _ _ _ _ HS.out HV.out hp).mono ?_; rintro e w2 ⟨rfl, hb2⟩
    replace hb1 := bbl hb1 hb2
    clear hb2
    go_wp2_with fail
    refine (refAdd_any _ _ _ _ _ H1.out HV.out).mono ?_; rw [HF.out.1, HF.out.2]; rintro e w4 ⟨rfl, hb4⟩
    replace hb1 := bbl hb1 hb4
    clear hb4
    go_wp2_with fail
    refine (refMod_any _ _ _ _ _ HT.out HV.out hp).mono ?_; rintro e w3 ⟨rfl, hb3⟩
    replace hb1 := bbl hb1 hb3
    clear hb3
    go_wp2_with fail
    refine (refSub_any _ _ _ _ _ HN.out H2.out HLE.out).mono ?_; rintro e w5 ⟨rfl, hb5⟩
    replace hb1 := bbl hb1 hb5
    clear hb5
    go_wp2_with fail
    refine (refMod_any _ _ _ _ _ HD.out HV.out hp).mono ?_; rw [HFIN.out]; rintro e w5 ⟨rfl, hb5⟩
    replace hb1 := bbl hb1 hb5
    clear hb5
    go_wp2_with fail
    go_ret2
    exact ⟨rfl, hb1⟩
  · rw [mo_bad h0]
    have hk : chk [s, t] [v] = 3 ∨ chk [s, t] [v] = 11 := hc.resolve_left h0
    clear hc h0
    rcases hk with hk | hk
    all_goals
      rw [hk]
      have HK := Lib.hid hk
      clear hk
      go_enter Try.func19, Try.ntmps19
      go_wp2_with fail
      refine (refCheck3 w s t v).mono ?_; rintro e w1 ⟨rfl, hb1⟩
      rw [HK.out]
      go_wp2_with fail
      go_ret2
      exact ⟨rfl, hb1⟩
set_option maxHeartbeats 1000000 in
theorem refTimesM_any (s t v : ByteArray) (a b m : Nat) (w : World) (hs : IsN s a) (ht : IsN t b) (hv : IsN v m) (h0 : 0 < m) (h64 : v.size ≤ 64) :
    Calls Try.prog 45 #[.string s, .string t, .string v] w fun e w' => e = .returned (.string (enc (a * b % m))) ∧ Below w.heap.size w w' := by
  obtain ⟨r1, r3⟩ := rem_lt hv h0 h64 a
  obtain ⟨r2, _⟩ := rem_lt hv h0 h64 b
  have hmul : blen ((a % m) * (b % m)) ≤ 128 := by
    rw [blen_le_iff]
    calc (a % m) * (b % m) < 256 ^ 64 * 256 ^ 64 := Nat.mul_lt_mul'' (by omega) (by omega)
      _ = 256 ^ 128 := by rw [← Nat.pow_add]
  have hfin : (a % m) * (b % m) % m = a * b % m := (Nat.mul_mod a b m).symm
  have hN1 := IsN.mk' (mod_le (a := a) hv h0)
  have hN2 := IsN.mk' (mod_le (a := b) hv h0)
  have HF := Lib.hid (And.intro (fitS_ok hmul) (fitE_ok hmul))
  have HP := Lib.hid (IsN.mk' hmul)
  have HFIN := Lib.hid hfin
  have HS := Lib.hid hs; clear hs
  have HT := Lib.hid ht; clear ht
  have HV := Lib.hid hv
  have H1 := Lib.hid hN1
  have H2 := Lib.hid hN2
  by_cases h8 : v.size ≤ 8
  · by_cases h31 : m < 2147483648
    · have d1 : decide ((m : Int) < 2147483648) = true := decide_eq_true (by omega)
      have z1 : (enc (a % m)).size ≤ 8 := by rw [size_enc]; exact Nat.le_trans (blen_mono (Nat.le_of_lt r1)) (by rw [← hv.size]; exact h8)
      have z2 : (enc (b % m)).size ≤ 8 := by rw [size_enc]; exact Nat.le_trans (blen_mono (Nat.le_of_lt r2)) (by rw [← hv.size]; exact h8)
      have hml : (a % m) * (b % m) < 4611686018427387904 := by
        have : (a % m) * (b % m) < 2147483648 * 2147483648 := Nat.mul_lt_mul'' (by omega) (by omega)
        omega
      have Z := Lib.hid (And.intro z1 z2)
      obtain ⟨x, hx⟩ : ∃ x, a % m = x := ⟨_, rfl⟩
      obtain ⟨y, hy⟩ : ∃ y, b % m = y := ⟨_, rfl⟩
      rw [hx, hy] at HFIN hml
      rw [hx] at H1 Z r1
      rw [hy] at H2 Z r2
      have hq1 : (x : Int) * (y : Int) = ((x * y : Nat) : Int) := (Int.natCast_mul x y).symm
      have hq2 : IntKind.u64.wrap ((x : Int) * (y : Int)) = ((x * y : Nat) : Int) := by rw [hq1]; exact wraps_u64 _ (by omega) (by omega)
      obtain ⟨p, hp⟩ : ∃ p, x * y = p := ⟨_, rfl⟩
      rw [hp] at hq1 hq2 HFIN hml
      have hpm : p % m < m := Nat.mod_lt _ h0
      have nz : ((m : Int) == 0) = false := by rw [beq_eq_false_iff_ne]; omega
      have HX := Lib.hid hx
      have HY := Lib.hid hy
      have hm32 := h31
      have HQ := Lib.hid hfin
      have r4 : ((p : Int)).tmod (m : Int) = ((p % m : Nat) : Int) := by rw [Int.tmod_eq_emod_of_nonneg (by omega)]; simp
      obtain ⟨q, hq⟩ : ∃ q, p % m = q := ⟨_, rfl⟩
      rw [hq] at r4 hpm HFIN
      clear hx hy hp hN1 hN2 hfin r3 hmul hq HF HP h64 hv
      go_enter Try.func45, Try.ntmps45
      go_wp2_with fail
      refine (refSmall_yes _ _ _ HV.out h8).mono ?_; rintro e w1 ⟨rfl, rfl⟩
      go_wp2_with fail
      refine (refMod_any _ _ _ _ _ HS.out HV.out h0).mono ?_; rw [HX.out]; rintro e w2 ⟨rfl, hb2⟩
      go_wp2_with fail
      refine (refSmall_yes _ _ _ H1.out Z.out.1).mono ?_; rintro e w1 ⟨rfl, rfl⟩
      go_wp2_with fail
      refine (refMod_any _ _ _ _ _ HT.out HV.out h0).mono ?_; rw [HY.out]; rintro e w3 ⟨rfl, hb3⟩
      replace hb2 := bbl hb2 hb3
      clear hb3
      go_wp2_with fail
      refine (refSmall_yes _ _ _ H2.out Z.out.2).mono ?_; rintro e w1 ⟨rfl, rfl⟩
      go_wp2_with fail
      refine (refOf_any q _ (by omega)).mono ?_; rw [HFIN.out]; rintro e w4 ⟨rfl, hb4⟩
      replace hb2 := bbl hb2 hb4
      go_wp2_with fail
      go_ret
      exact ⟨rfl, hb2⟩
    · have d1 : decide ((m : Int) < 2147483648) = false := decide_eq_false (by omega)
      clear hN1 hN2 hfin r1 r2 r3 hmul h31 h64 hv
      go_enter Try.func45, Try.ntmps45
      go_wp2_with fail
      refine (refSmall_yes _ _ _ HV.out h8).mono ?_; rintro e w1 ⟨rfl, rfl⟩
      go_wp2_with fail
      refine (refMod_any _ _ _ _ _ HS.out HV.out h0).mono ?_; rintro e w2 ⟨rfl, hb2⟩
      go_wp2_with fail
      refine (refMod_any _ _ _ _ _ HT.out HV.out h0).mono ?_; rintro e w3 ⟨rfl, hb3⟩
      replace hb2 := bbl hb2 hb3
      clear hb3
      go_wp2_with fail
      refine (refMul_any _ _ _ _ _ H1.out H2.out).mono ?_; rw [HF.out.1, HF.out.2]; rintro e w3 ⟨rfl, hb3⟩
      replace hb2 := bbl hb2 hb3
      clear hb3
      go_wp2_with fail
      refine (refMod_any _ _ _ _ _ HP.out HV.out h0).mono ?_; rw [HFIN.out]; rintro e w3 ⟨rfl, hb3⟩
      replace hb2 := bbl hb2 hb3
      clear hb3
      go_wp2_with fail
      go_ret
      exact ⟨rfl, hb2⟩
  · clear hN1 hN2 hfin r1 r2 r3 hmul h64 hv
    go_enter Try.func45, Try.ntmps45
    go_wp2_with fail
    refine (refSmall_no _ _ _ HV.out (by omega)).mono ?_; rintro e w1 ⟨rfl, rfl⟩
    go_wp2_with fail
    refine (refMod_any _ _ _ _ _ HS.out HV.out h0).mono ?_; rintro e w2 ⟨rfl, hb2⟩
    go_wp2_with fail
    refine (refMod_any _ _ _ _ _ HT.out HV.out h0).mono ?_; rintro e w3 ⟨rfl, hb3⟩
    replace hb2 := bbl hb2 hb3
    clear hb3
    go_wp2_with fail
    refine (refMul_any _ _ _ _ _ H1.out H2.out).mono ?_; rw [HF.out.1, HF.out.2]; rintro e w3 ⟨rfl, hb3⟩
    replace hb2 := bbl hb2 hb3
    clear hb3
    go_wp2_with fail
    refine (refMod_any _ _ _ _ _ HP.out HV.out h0).mono ?_; rw [HFIN.out]; rintro e w3 ⟨rfl, hb3⟩
    replace hb2 := bbl hb2 hb3
    clear hb3
    go_wp2_with fail
    go_ret
    exact ⟨rfl, hb2⟩
set_option maxHeartbeats 1000000 in
theorem refMMul_any (s t v : ByteArray) (w : World) (h64 : v.size ≤ 64) :
    Calls Try.prog 21 #[.string s, .string t, .string v] w fun e w' => e = .returned (.tuple #[.string (mo (chk [s, t] [v]) (nv s * nv t % nv v)), .int .i64 (chk [s, t] [v])]) ∧ Below w.heap.size w w' := by
  have hc := chk_cases [s, t] [v]
  by_cases h0 : chk [s, t] [v] = 0
  · obtain ⟨hs, ht, hv, hp⟩ := chk21_inv h0
    rw [h0, mo_zero]
    have HS := Lib.hid hs
    have HT := Lib.hid ht
    have HV := Lib.hid hv
    have HK := Lib.hid h0
    clear hc h0 hs ht hv
    go_enter Try.func21, Try.ntmps21
    go_wp2_with fail
    refine (refCheck3 w s t v).mono ?_; rintro e w1 ⟨rfl, hb1⟩
    rw [HK.out]
    go_wp2_with fail
    refine (refTimesM_any _ _ _ _ _ _ _ HS.out HT.out HV.out hp h64).mono ?_; rintro e w2 ⟨rfl, hb2⟩
    replace hb1 := bbl hb1 hb2
    clear hb2
    go_wp2_with fail
    go_ret2
    exact ⟨rfl, hb1⟩
  · rw [mo_bad h0]
    have hk : chk [s, t] [v] = 3 ∨ chk [s, t] [v] = 11 := hc.resolve_left h0
    clear hc h0
    rcases hk with hk | hk
    all_goals
      rw [hk]
      have HK := Lib.hid hk
      clear hk
      go_enter Try.func21, Try.ntmps21
      go_wp2_with fail
      refine (refCheck3 w s t v).mono ?_; rintro e w1 ⟨rfl, hb1⟩
      rw [HK.out]
      go_wp2_with fail
      go_ret2
      exact ⟨rfl, hb1⟩
theorem tb_zero (n : Nat) : tb n 0 = decide (n % 2 = 1) := by unfold tb; rw [Nat.pow_zero, Nat.div_one]
theorem tb_one (n : Nat) (h : n % 2 = 1) : tb n 1 = decide (n % 4 = 3) := by
  unfold tb
  rw [Nat.pow_one, Bool.eq_iff_iff, decide_eq_true_eq, decide_eq_true_eq]
  omega
set_option maxHeartbeats 4000000 in
theorem refJacobi_odd (s v : ByteArray) (a m : Nat) (w : World) (hs : IsN s a) (hv : IsN v m) (h2 : m % 2 = 1) :
    Calls Try.prog 13 #[.string s, .string v] w fun e w' => e = .returned (.tuple #[.int .i64 (jac (a % m) m 1), .int .i64 0]) ∧ Below w.heap.size w w' := by
  have h0 : 0 < m := by omega
  have hk := chk11 hs hv h0
  have t1 : tb m 0 = true := by rw [tb_zero]; exact decide_eq_true h2
  have HS := Lib.hid hs; clear hs
  have HV := Lib.hid hv; clear hv
  obtain ⟨T, hT⟩ : ∃ T, jac (a % m) m 1 = T := ⟨_, rfl⟩
  rw [hT]
  have HT := Lib.hid hT
  have HM2 := Lib.hid h2
  have HT1 := Lib.hid t1
  clear hT h2 t1
  go_enter Try.func13, Try.ntmps13
  go_wp2_with fail
  refine (refCheck2 w s v).mono ?_; rintro e w1 ⟨rfl, hb1⟩
  rw [hk]
  clear hk
  go_wp2_with fail
  refine (refBit_any v m 0 _ HV.out (by omega)).mono ?_; rw [HT1.out]; rintro e w2 ⟨rfl, rfl⟩
  go_wp2_with fail
  refine (refMod_any _ _ _ _ _ HS.out HV.out h0).mono ?_; rintro e w3 ⟨rfl, hb3⟩
  replace hb3 := bbl hb1 hb3
  clear hb1
  go_wp2_with fail
  go_loopw [0, 1, 7, 8, 9] (fun p q r r8 r9 wr => ∃ (x n : Nat) (z : Int), p = .string (enc x) ∧ q = .string (enc n) ∧ r = .int .i64 z ∧ (z = 1 ∨ z = -1) ∧ n % 2 = 1 ∧ blen x ≤ 128 ∧ blen n ≤ 128 ∧ Hid (jac x n z = T) ∧ Below w.heap.size w wr) (fun p _ _ _ _ _ => strNum p)
  case atStart => exact ⟨a % m, m, 1, rfl, by rw [HV.out.eq], rfl, .inl rfl, HM2.out, mod_le HV.out h0, HV.out.le, HT, hb3⟩
  case round =>
    clear hb3 HT HT1 HM2
    obtain ⟨x, n, z, rfl, rfl, rfl, hz, hn, hx, hnl, hJ, hb⟩ := hrel
    have hz1 : -1 ≤ z := by omega
    have hz2 : z ≤ 1 := by omega
    rcases Nat.eq_zero_or_pos x with hx0 | hx0
    · subst hx0
      have hf := hJ.out
      rw [jac_zero] at hf
      rw [enc_zero]
      by_cases h1 : n = 1
      · subst h1
        rw [if_pos rfl] at hf
        have e1 := enc_same' 1
        have HF := Lib.hid hf
        clear hf hJ
        go_wp2_with fail
        refine (refOf_any 1 _ (by omega)).mono ?_; rintro e w4 ⟨rfl, hb4⟩
        replace hb := bbl hb hb4
        go_wp2_with fail
        go_ret2
        exact ⟨by rw [← HF.out]; rfl, hb⟩
      · rw [if_neg h1] at hf
        obtain ⟨e1, e2⟩ := enc_ne h1
        have HF := Lib.hid hf
        clear hf hJ
        go_wp2_with fail
        refine (refOf_any 1 _ (by omega)).mono ?_; rintro e w4 ⟨rfl, hb4⟩
        replace hb := bbl hb hb4
        go_wp2_with fail
        go_ret2
        exact ⟨by rw [← HF.out]; rfl, hb⟩
    · have ne := (notEmpty_enc hx0).1
      have ne' := toList_enc_nil hx0
      go_wp2_with fail
      obtain ⟨wo, rfl⟩ : ∃ wo : World, wo = wr := ⟨_, rfl⟩
      go_loopw [0, 7, 8, 9] (fun p r r8 r9 wr => ∃ (y : Nat) (z : Int), p = .string (enc y) ∧ r = .int .i64 z ∧ (z = 1 ∨ z = -1) ∧ 0 < y ∧ y ≤ x ∧ Hid (jac y n z = T) ∧ Below w.heap.size w wr) (fun p _ _ _ _ => strNum p)
      case atStart => exact ⟨x, z, rfl, rfl, hz, hx0, Nat.le_refl _, hJ, hb⟩
      case round =>
        clear hJ hb hz hz1 hz2 ne ne'
        obtain ⟨y, z, rfl, rfl, hz, hy0, hyx, hJ, hb⟩ := hrel
        have hz1 : -1 ≤ z := by omega
        have hz2 : z ≤ 1 := by omega
        have hyl : blen y ≤ 128 := Nat.le_trans (blen_mono hyx) hx
        have HY := Lib.hid (IsN.mk' hyl)
        have HN := Lib.hid (IsN.mk' hnl)
        by_cases he : y % 2 = 0
        · have t1 : tb y 0 = false := by rw [tb_zero]; exact decide_eq_false (by omega)
          have hst := jac_even n z (by omega) he
          rw [hJ.out] at hst
          have hh0 : 0 < y / 2 := by omega
          have hhx : y / 2 ≤ x := by omega
          have hhl : y / 2 < y := by omega
          have HH := Lib.hid (And.intro hh0 (And.intro hhx hhl))
          have HT1 := Lib.hid t1
          have i2 : IsN (enc 2) 2 := IsN.mk' (by decide)
          have i8 : IsN (enc 8) 8 := IsN.mk' (by decide)
          obtain ⟨ln, hln⟩ : ∃ l, n % 8 = l := ⟨_, rfl⟩
          have hln8 : ln < 8 := by omega
          have h8s : (enc ln).size ≤ 8 := by rw [size_enc]; exact Nat.le_trans (blen_mono (show ln ≤ 8 by omega)) (by decide)
          have h8n : IsN (enc ln) ln := IsN.mk' (Nat.le_trans (blen_mono (show ln ≤ 8 by omega)) (by decide))
          have H8 := Lib.hid (And.intro h8s h8n)
          have HI := Lib.hid (And.intro i2 i8)
          have HLN := Lib.hid hln
          clear hJ he hh0 hhx hhl t1 i2 i8 h8s h8n
          by_cases h35 : n % 8 = 3 ∨ n % 8 = 5
          · rw [if_pos h35] at hst
            have HST := Lib.hid hst.symm
            have hzn := sign_neg hz
            have hq : ln = 3 ∨ ln = 5 := by omega
            clear hst h35 hln
            rcases hq with rfl | rfl
            all_goals
              go_wp2_with fail
              refine (refBit_any _ y 0 _ HY.out (by omega)).mono ?_; rw [HT1.out]; rintro e w2 ⟨rfl, rfl⟩
              go_wp2_with fail
              refine (refOf_any 2 _ (by omega)).mono ?_; rintro e w4 ⟨rfl, hb4⟩
              replace hb := bbl hb hb4
              clear hb4
              go_wp2_with fail
              refine (refDivMod_any _ _ y 2 _ HY.out HI.out.1 (by omega)).mono ?_; rintro e w2 ⟨rfl, hb2⟩
              replace hb := bbl hb hb2
              clear hb2
              go_wp2_with fail
              refine (refOf_any 8 _ (by omega)).mono ?_; rintro e w4 ⟨rfl, hb4⟩
              replace hb := bbl hb hb4
              clear hb4
              go_wp2_with fail
              refine (refMod_any _ _ n 8 _ HN.out HI.out.2 (by omega)).mono ?_; rw [HLN.out]; rintro e w3 ⟨rfl, hb3⟩
              replace hb := bbl hb hb3
              clear hb3
              go_wp2_with fail
              refine (refSmall_yes _ _ _ H8.out.2 H8.out.1).mono ?_; rintro e w1 ⟨rfl, rfl⟩
              go_wp2_with fail
              exact ⟨⟨y / 2, -z, rfl, by first | rfl | go_num, hzn, HH.out.1, HH.out.2.1, HST.out, hb⟩, by simp only [strNum, nv_enc]; exact HH.out.2.2⟩
          · rw [if_neg h35] at hst
            have HST := Lib.hid hst.symm
            have q3 : ((ln : Int) == 3) = false := by rw [beq_eq_false_iff_ne]; omega
            have q5 : ((ln : Int) == 5) = false := by rw [beq_eq_false_iff_ne]; omega
            clear hst h35 hln
            go_wp2_with fail
            refine (refBit_any _ y 0 _ HY.out (by omega)).mono ?_; rw [HT1.out]; rintro e w2 ⟨rfl, rfl⟩
            go_wp2_with fail
            refine (refOf_any 2 _ (by omega)).mono ?_; rintro e w4 ⟨rfl, hb4⟩
            replace hb := bbl hb hb4
            clear hb4
            go_wp2_with fail
            refine (refDivMod_any _ _ y 2 _ HY.out HI.out.1 (by omega)).mono ?_; rintro e w2 ⟨rfl, hb2⟩
            replace hb := bbl hb hb2
            clear hb2
            go_wp2_with fail
            refine (refOf_any 8 _ (by omega)).mono ?_; rintro e w4 ⟨rfl, hb4⟩
            replace hb := bbl hb hb4
            clear hb4
            go_wp2_with fail
            refine (refMod_any _ _ n 8 _ HN.out HI.out.2 (by omega)).mono ?_; rw [HLN.out]; rintro e w3 ⟨rfl, hb3⟩
            replace hb := bbl hb hb3
            clear hb3
            go_wp2_with fail
            refine (refSmall_yes _ _ _ H8.out.2 H8.out.1).mono ?_; rintro e w1 ⟨rfl, rfl⟩
            go_wp2_with fail
            exact ⟨⟨y / 2, z, rfl, rfl, hz, HH.out.1, HH.out.2.1, HST.out, hb⟩, by simp only [strNum, nv_enc]; exact HH.out.2.2⟩
        · have hy2 : y % 2 = 1 := by omega
          have t1 : tb y 0 = true := by rw [tb_zero]; exact decide_eq_true hy2
          have hst := jac_odd n z hy2
          rw [hJ.out] at hst
          have hm := Nat.mod_lt n hy0
          have hml : blen (n % y) ≤ 128 := Nat.le_trans (blen_mono (Nat.mod_le _ _)) hnl
          have HM := Lib.hid (And.intro hy2 (And.intro hml (show n % y < x by omega)))
          have HT1 := Lib.hid t1
          clear hJ he hm hml t1
          by_cases h4 : n % 4 = 3
          · have q2 : tb n 1 = true := by rw [tb_one n hn]; exact decide_eq_true h4
            by_cases h3 : y % 4 = 3
            · have q1 : tb y 1 = true := by rw [tb_one y hy2]; exact decide_eq_true h3
              rw [if_pos ⟨h3, h4⟩] at hst
              have HST := Lib.hid hst.symm
              have hzn := sign_neg hz
              have Q1 := Lib.hid q1
              have Q2 := Lib.hid q2
              clear hst h3 h4 q1 q2
              go_wp2_with fail
              refine (refBit_any _ y 0 _ HY.out (by omega)).mono ?_; rw [HT1.out]; rintro e w2 ⟨rfl, rfl⟩
              go_wp2_with fail
              refine (refBit_any _ n 1 _ HN.out (by omega)).mono ?_; rw [Q2.out]; rintro e w2 ⟨rfl, rfl⟩
              go_wp2_with fail
              refine (refBit_any _ y 1 _ HY.out (by omega)).mono ?_; rw [Q1.out]; rintro e w2 ⟨rfl, rfl⟩
              go_wp2_with fail
              refine (refMod_any _ _ n y _ HN.out HY.out hy0).mono ?_; rintro e w3 ⟨rfl, hb3⟩
              go_wp2_with fail
              exact ⟨⟨n % y, y, -z, rfl, rfl, by first | rfl | go_num, hzn, HM.out.1, HM.out.2.1, hyl, HST.out, bbl hb hb3⟩, by simp only [strNum, nv_enc]; exact HM.out.2.2⟩
            · have q1 : tb y 1 = false := by rw [tb_one y hy2]; exact decide_eq_false h3
              rw [if_neg (fun h => h3 h.1)] at hst
              have HST := Lib.hid hst.symm
              have Q1 := Lib.hid q1
              have Q2 := Lib.hid q2
              clear hst h3 h4 q1 q2
              go_wp2_with fail
              refine (refBit_any _ y 0 _ HY.out (by omega)).mono ?_; rw [HT1.out]; rintro e w2 ⟨rfl, rfl⟩
              go_wp2_with fail
              refine (refBit_any _ n 1 _ HN.out (by omega)).mono ?_; rw [Q2.out]; rintro e w2 ⟨rfl, rfl⟩
              go_wp2_with fail
              refine (refBit_any _ y 1 _ HY.out (by omega)).mono ?_; rw [Q1.out]; rintro e w2 ⟨rfl, rfl⟩
              go_wp2_with fail
              refine (refMod_any _ _ n y _ HN.out HY.out hy0).mono ?_; rintro e w3 ⟨rfl, hb3⟩
              go_wp2_with fail
              exact ⟨⟨n % y, y, z, rfl, rfl, rfl, hz, HM.out.1, HM.out.2.1, hyl, HST.out, bbl hb hb3⟩, by simp only [strNum, nv_enc]; exact HM.out.2.2⟩
          · have q2 : tb n 1 = false := by rw [tb_one n hn]; exact decide_eq_false h4
            rw [if_neg (fun h => h4 h.2)] at hst
            have HST := Lib.hid hst.symm
            have Q2 := Lib.hid q2
            clear hst h4 q2
            go_wp2_with fail
            refine (refBit_any _ y 0 _ HY.out (by omega)).mono ?_; rw [HT1.out]; rintro e w2 ⟨rfl, rfl⟩
            go_wp2_with fail
            refine (refBit_any _ n 1 _ HN.out (by omega)).mono ?_; rw [Q2.out]; rintro e w2 ⟨rfl, rfl⟩
            go_wp2_with fail
            refine (refMod_any _ _ n y _ HN.out HY.out hy0).mono ?_; rintro e w3 ⟨rfl, hb3⟩
            go_wp2_with fail
            exact ⟨⟨n % y, y, z, rfl, rfl, rfl, hz, HM.out.1, HM.out.2.1, hyl, HST.out, bbl hb hb3⟩, by simp only [strNum, nv_enc]; exact HM.out.2.2⟩
theorem refJacobi_even (s v : ByteArray) (a m : Nat) (w : World) (hs : IsN s a) (hv : IsN v m) (h0 : 0 < m) (h2 : m % 2 = 0) :
    Calls Try.prog 13 #[.string s, .string v] w fun e w' => e = .returned (.tuple #[.int .i64 0, .int .i64 1]) ∧ Below w.heap.size w w' := by
  have hk := chk11 hs hv h0
  have t1 : tb m 0 = false := by rw [tb_zero]; exact decide_eq_false (by omega)
  have HT1 := Lib.hid t1
  have HV := Lib.hid hv
  clear h2 hs hv t1
  go_enter Try.func13, Try.ntmps13
  go_wp2_with fail
  refine (refCheck2 w s v).mono ?_; rintro e w1 ⟨rfl, hb1⟩
  rw [hk]
  clear hk
  go_wp2_with fail
  refine (refBit_any v m 0 _ HV.out (by omega)).mono ?_; rw [HT1.out]; rintro e w2 ⟨rfl, rfl⟩
  go_wp2_with fail
  go_ret2
  exact ⟨rfl, hb1⟩
theorem refJacobi_any (s v : ByteArray) (w : World) :
    Calls Try.prog 13 #[.string s, .string v] w fun e w' => e = .returned (.tuple #[.int .i64 (jcV s v), .int .i64 (jcE s v)]) ∧ Below w.heap.size w w' := by
  have hc := chk_cases [s] [v]
  by_cases h0 : chk [s] [v] = 0
  · obtain ⟨hs, hv, hp⟩ := chk11_inv h0
    by_cases hg : nv v % 2 = 0
    · have e1 : jcE s v = 1 := by unfold jcE; rw [if_pos h0, if_pos hg]
      rw [jcV, e1, if_neg (by decide)]
      exact refJacobi_even s v _ _ w hs hv hp hg
    · have e1 : jcE s v = 0 := by unfold jcE; rw [if_pos h0, if_neg hg]
      rw [jcV, e1, if_pos rfl]
      exact refJacobi_odd s v _ _ w hs hv (by omega)
  · have e1 : jcE s v = chk [s] [v] := by unfold jcE; rw [if_neg h0]
    rw [jcV, e1, if_neg h0]
    have hk : chk [s] [v] = 3 ∨ chk [s] [v] = 11 := hc.resolve_left h0
    clear hc h0 e1
    rcases hk with hk | hk
    all_goals
      rw [hk]
      have HK := Lib.hid hk
      clear hk
      go_enter Try.func13, Try.ntmps13
      go_wp2_with fail
      refine (refCheck2 w s v).mono ?_; rintro e w1 ⟨rfl, hb1⟩
      rw [HK.out]
      go_wp2_with fail
      go_ret2
      exact ⟨rfl, hb1⟩
end Go.Proofs.Ytoocpmmgoljncaa
