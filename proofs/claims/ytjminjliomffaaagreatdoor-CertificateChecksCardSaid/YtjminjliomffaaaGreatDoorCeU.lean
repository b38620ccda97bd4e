import Derived.Test.YtjminjliomffaaaGreatDoorCeN
/- The reference of layer 3 (check, Mod, times, raise, Exp) and ref01: Cmp, twos, Sqrt, for the certificates. -/
namespace Go.Proofs.YtjminjliomffaaaGreatDoor
open Go.RowKit Num
set_option maxRecDepth 20000
set_option linter.unusedVariables false
theorem bbl {w w1 w2 : World} (h : Below w.heap.size w w1) (h2 : Below w1.heap.size w1 w2) : Below w.heap.size w w2 := h.trans (h2.mono h.size)
/-- a result, or the empty string -/
def mo (c : Int) (n : Nat) : ByteArray := if c = 0 then enc n else ⟨#[]⟩
theorem mo_zero (n : Nat) : mo 0 n = enc n := rfl
theorem mo_bad {c : Int} (h : c ≠ 0) (n : Nat) : mo c n = ⟨#[]⟩ := if_neg h
theorem chk_cases (ls ms : List ByteArray) : chk ls ms = 0 ∨ chk ls ms = 3 ∨ chk ls ms = 11 := by
  unfold chk
  split
  · split
    · exact .inr (.inr rfl)
    · exact .inl rfl
  · exact .inr (.inl rfl)
theorem chk_inv {ls ms : List ByteArray} (h : chk ls ms = 0) : (∀ x ∈ ls ++ ms, IsN x (nv x)) ∧ ∀ x ∈ ms, 0 < nv x := by
  unfold chk at h
  split at h
  · rename_i h1
    split at h
    · cases h
    · rename_i h2
      rw [List.all_eq_true] at h1
      refine ⟨fun x hx => isN_of_valid (h1 x hx), fun x hx => ?_⟩
      have hv := isN_of_valid (h1 x (List.mem_append_right _ hx))
      rcases Nat.eq_zero_or_pos (nv x) with h0 | h0
      · exfalso
        apply h2
        rw [List.any_eq_true]
        refine ⟨x, hx, ?_⟩
        have := hv.size
        rw [h0, blen_zero] at this
        exact decide_eq_true this
      · exact h0
  · cases h
theorem chk21_inv {s t v : ByteArray} (h : chk [s, t] [v] = 0) : IsN s (nv s) ∧ IsN t (nv t) ∧ IsN v (nv v) ∧ 0 < nv v := by
  obtain ⟨h1, h2⟩ := chk_inv h
  exact ⟨h1 s (by simp), h1 t (by simp), h1 v (by simp), h2 v (by simp)⟩
set_option linter.unusedVariables false
set_option maxHeartbeats 1000000 in
theorem refCheck_any (w : World) (b k : Nat) (ls : List ByteArray) (m : ByteArray) (h : StrAt w b (ls ++ [m])) (hk : k = ls.length + 1) (l1 : k ≤ 1000) :
    Calls Tryz.prog 106 #[.slice (some ⟨b, 0, none⟩) k k] w fun e w' => e = .returned (.int .i64 (chk ls [m])) ∧ w = w' := by
  have hl : (ls ++ [m]).length = k := by simp [hk]
  have hlast : (ls ++ [m])[k - 1]? = some m := by rw [hk]; simp
  have H := Lib.hid h
  have HL := Lib.hid hl
  have HLA := Lib.hid hlast
  have HK := Lib.hid hk
  clear h hl hlast hk
  go_enter Tryz.func106, Tryz.ntmps106
  go_wp2_with fail
  go_loop [3] (fun i => ∃ j : Nat, j ≤ k ∧ i = .int .i64 j ∧ Hid (∀ i (h : i < (ls ++ [m]).length), i < j → validB (ls ++ [m])[i] = true)) (fun i => k - (intOf i).toNat)
  case atStart => exact ⟨0, by omega, rfl, fun i h h2 => by omega⟩
  case round =>
    obtain ⟨j, hj, rfl, hv⟩ := hrel
    by_cases hlt : j < k
    · have hjl : j < (ls ++ [m]).length := by rw [HL.out]; exact hlt
      obtain ⟨x, hx⟩ : ∃ x, (ls ++ [m])[j] = x := ⟨_, rfl⟩
      have hc : w.cell? ⟨b, j, none⟩ = some (.string x) := by rw [← hx]; exact H.out j hjl
      by_cases hvx : validB x = true
      · have hst : Hid (∀ i (h : i < (ls ++ [m]).length), i < j + 1 → validB (ls ++ [m])[i] = true) := fun i h hi => by
          by_cases e : i = j
          · subst e; rw [hx]; exact hvx
          · exact hv.out i h (by omega)
        have HVX := Lib.hid hvx
        clear hvx hv hx hjl
        go_wp2_with fail
        refine (refValid_any x _).mono ?_
        rw [HVX.out]
        rintro e w' ⟨rfl, rfl⟩
        go_wp2_with fail
        exact ⟨⟨j + 1, by omega, by go_num, hst⟩, by simp [intOf]; omega⟩
      · have hvx' : validB x = false := by simpa using hvx
        have hb := chk_bad (ls := ls) (ms := [m]) hjl (by rw [hx]; exact hvx')
        have HVX := Lib.hid hvx'
        have HB := Lib.hid hb
        clear hvx hvx' hv hx hjl hb
        go_wp2_with fail
        refine (refValid_any x _).mono ?_
        rw [HVX.out]
        rintro e w' ⟨rfl, rfl⟩
        go_wp2_with fail
        go_ret
        exact ⟨ret_int HB.out.symm, rfl⟩
    · obtain rfl : j = k := by omega
      have hg := chk_good (ls := ls) (ms := [m]) (fun i hi => hv.out i hi (by rw [HL.out] at hi; exact hi))
      have hp : 0 < j := by have := HK.out; omega
      have hc : w.cell? ⟨b, j - 1, none⟩ = some (.string m) := by
        have := H.out (j - 1) (by rw [HL.out]; omega)
        rw [this]
        have h2 := HLA.out
        rw [List.getElem?_eq_getElem (by rw [HL.out]; omega)] at h2
        injection h2 with h2
        rw [h2]
      by_cases h0 : m.size = 0
      · have e1 : m = ⟨#[]⟩ := by cases m with | mk d => simp [ByteArray.size] at h0; simp [h0]
        subst e1
        have hg2 : chk ls [⟨#[]⟩] = 11 := by rw [hg]; rfl
        have HG := Lib.hid hg2
        clear hg hg2 hv
        go_wp2_with fail
        go_ret
        exact ⟨ret_int HG.out.symm, rfl⟩
      · obtain ⟨n1, n2⟩ := toList_ne h0
        have hg2 : chk ls [m] = 0 := by rw [hg, if_neg]; simp; exact fun e => h0 (by rw [e]; rfl)
        have HG := Lib.hid hg2
        clear hg hg2 hv
        go_wp2_with fail
        go_ret
        exact ⟨ret_int HG.out.symm, rfl⟩
theorem StrAt.lit0 (w : World) (T : TypeId) (l : List ByteArray) : StrAt (w.alloc (.cells (l.map Value.string).toArray T)) w.heap.size l := by
  intro j hj
  rw [World.cell?_alloc_new]
  simp [hj]
theorem refCheck3 (w : World) (x y m : ByteArray) :
    Calls Tryz.prog 106 #[.slice (some ⟨w.heap.size, 0, none⟩) 3 3] (w.alloc (.cells #[.string x, .string y, .string m] 30)) fun e w' => e = .returned (.int .i64 (chk [x, y] [m])) ∧ Below w.heap.size w w' :=
  (refCheck_any (w.alloc (.cells #[.string x, .string y, .string m] 30)) w.heap.size 3 [x, y] m (StrAt.lit0 w _ [x, y, m]) rfl (by omega)).mono
    fun _ _ h => ⟨h.1, by rw [← h.2]; exact (Below.refl _ w).alloc (Nat.le_refl _) _⟩
theorem refCheck2 (w : World) (x m : ByteArray) :
    Calls Tryz.prog 106 #[.slice (some ⟨w.heap.size, 0, none⟩) 2 2] (w.alloc (.cells #[.string x, .string m] 30)) fun e w' => e = .returned (.int .i64 (chk [x] [m])) ∧ Below w.heap.size w w' :=
  (refCheck_any (w.alloc (.cells #[.string x, .string m] 30)) w.heap.size 2 [x] m (StrAt.lit0 w _ [x, m]) rfl (by omega)).mono
    fun _ _ h => ⟨h.1, by rw [← h.2]; exact (Below.refl _ w).alloc (Nat.le_refl _) _⟩
theorem refMod_any (s v : ByteArray) (a m : Nat) (w : World) (hs : IsN s a) (hv : IsN v m) (h0 : 0 < m) :
    Calls Tryz.prog 131 #[.string s, .string v] w fun e w' => e = .returned (.string (enc (a % m))) ∧ Below w.heap.size w w' := by
  have HS := Lib.hid hs; clear hs
  have HV := Lib.hid hv; clear hv
  go_enter Tryz.func131, Tryz.ntmps131
  go_wp2_with fail
  refine (refDivMod_any _ _ _ _ _ HS.out HV.out h0).mono ?_; rintro e w2 ⟨rfl, hb2⟩
  go_wp2_with fail
  go_ret
  exact ⟨rfl, hb2⟩
theorem blen_pow {n k : Nat} (h : n < 256 ^ k) (hk : k ≤ 128) : blen n ≤ 128 := Nat.le_trans ((blen_le_iff n k).2 h) hk
theorem rem_lt {v : ByteArray} {m : Nat} (hv : IsN v m) (h0 : 0 < m) (h64 : v.size ≤ 64) (a : Nat) : a % m < m ∧ m < 256 ^ 64 := by
  refine ⟨Nat.mod_lt _ h0, ?_⟩
  rw [← blen_le_iff, ← hv.size]
  exact h64
set_option maxHeartbeats 1000000 in
theorem refTimesM_any (s t v : ByteArray) (a b m : Nat) (w : World) (hs : IsN s a) (ht : IsN t b) (hv : IsN v m) (h0 : 0 < m) (h64 : v.size ≤ 64) :
    Calls Tryz.prog 133 #[.string s, .string t, .string v] w fun e w' => e = .returned (.string (enc (a * b % m))) ∧ Below w.heap.size w w' := by
  obtain ⟨r1, r3⟩ := rem_lt hv h0 h64 a
  obtain ⟨r2, _⟩ := rem_lt hv h0 h64 b
  have hmul : blen ((a % m) * (b % m)) ≤ 128 := by
    rw [blen_le_iff]
    calc (a % m) * (b % m) < 256 ^ 64 * 256 ^ 64 := Nat.mul_lt_mul'' (by omega) (by omega)
      _ = 256 ^ 128 := by rw [← Nat.pow_add]
  have hfin : (a % m) * (b % m) % m = a * b % m := (Nat.mul_mod a b m).symm
  have hN1 := IsN.mk' (mod_le (a := a) hv h0)
  have hN2 := IsN.mk' (mod_le (a := b) hv h0)
  have HF := Lib.hid (And.intro (fitS_ok hmul) (fitE_ok hmul))
  have HP := Lib.hid (IsN.mk' hmul)
  have HFIN := Lib.hid hfin
  have HS := Lib.hid hs; clear hs
  have HT := Lib.hid ht; clear ht
  have HV := Lib.hid hv
  have H1 := Lib.hid hN1
  have H2 := Lib.hid hN2
  by_cases h8 : v.size ≤ 8
  · by_cases h31 : m < 2147483648
    · have d1 : decide ((m : Int) < 2147483648) = true := decide_eq_true (by omega)
      have z1 : (enc (a % m)).size ≤ 8 := by rw [size_enc]; exact Nat.le_trans (blen_mono (Nat.le_of_lt r1)) (by rw [← hv.size]; exact h8)
      have z2 : (enc (b % m)).size ≤ 8 := by rw [size_enc]; exact Nat.le_trans (blen_mono (Nat.le_of_lt r2)) (by rw [← hv.size]; exact h8)
      have hml : (a % m) * (b % m) < 4611686018427387904 := by
        have : (a % m) * (b % m) < 2147483648 * 2147483648 := Nat.mul_lt_mul'' (by omega) (by omega)
        omega
      have Z := Lib.hid (And.intro z1 z2)
      obtain ⟨x, hx⟩ : ∃ x, a % m = x := ⟨_, rfl⟩
      obtain ⟨y, hy⟩ : ∃ y, b % m = y := ⟨_, rfl⟩
      rw [hx, hy] at HFIN hml
      rw [hx] at H1 Z r1
      rw [hy] at H2 Z r2
      have hq1 : (x : Int) * (y : Int) = ((x * y : Nat) : Int) := (Int.natCast_mul x y).symm
      have hq2 : IntKind.u64.wrap ((x : Int) * (y : Int)) = ((x * y : Nat) : Int) := by rw [hq1]; exact wraps_u64 _ (by omega) (by omega)
      obtain ⟨p, hp⟩ : ∃ p, x * y = p := ⟨_, rfl⟩
      rw [hp] at hq1 hq2 HFIN hml
      have hpm : p % m < m := Nat.mod_lt _ h0
      have nz : ((m : Int) == 0) = false := by rw [beq_eq_false_iff_ne]; omega
      have HX := Lib.hid hx
      have HY := Lib.hid hy
      have hm32 := h31
      have HQ := Lib.hid hfin
      have r4 : ((p : Int)).tmod (m : Int) = ((p % m : Nat) : Int) := by rw [Int.tmod_eq_emod_of_nonneg (by omega)]; simp
      obtain ⟨q, hq⟩ : ∃ q, p % m = q := ⟨_, rfl⟩
      rw [hq] at r4 hpm HFIN
      clear hx hy hp hN1 hN2 hfin r3 hmul hq HF HP h64 hv
      go_enter Tryz.func133, Tryz.ntmps133
      go_wp2_with fail
      refine (refSmall_yes _ _ _ HV.out h8).mono ?_; rintro e w1 ⟨rfl, rfl⟩
      go_wp2_with fail
      refine (refMod_any _ _ _ _ _ HS.out HV.out h0).mono ?_; rw [HX.out]; rintro e w2 ⟨rfl, hb2⟩
      go_wp2_with fail
      refine (refSmall_yes _ _ _ H1.out Z.out.1).mono ?_; rintro e w1 ⟨rfl, rfl⟩
      go_wp2_with fail
      refine (refMod_any _ _ _ _ _ HT.out HV.out h0).mono ?_; rw [HY.out]; rintro e w3 ⟨rfl, hb3⟩
      replace hb2 := bbl hb2 hb3
      clear hb3
      go_wp2_with fail
      refine (refSmall_yes _ _ _ H2.out Z.out.2).mono ?_; rintro e w1 ⟨rfl, rfl⟩
      go_wp2_with fail
      refine (refOf_any q _ (by omega)).mono ?_; rw [HFIN.out]; rintro e w4 ⟨rfl, hb4⟩
      replace hb2 := bbl hb2 hb4
      go_wp2_with fail
      go_ret
      exact ⟨rfl, hb2⟩
    · have d1 : decide ((m : Int) < 2147483648) = false := decide_eq_false (by omega)
      clear hN1 hN2 hfin r1 r2 r3 hmul h31 h64 hv
      go_enter Tryz.func133, Tryz.ntmps133
      go_wp2_with fail
      refine (refSmall_yes _ _ _ HV.out h8).mono ?_; rintro e w1 ⟨rfl, rfl⟩
      go_wp2_with fail
      refine (refMod_any _ _ _ _ _ HS.out HV.out h0).mono ?_; rintro e w2 ⟨rfl, hb2⟩
      go_wp2_with fail
      refine (refMod_any _ _ _ _ _ HT.out HV.out h0).mono ?_; rintro e w3 ⟨rfl, hb3⟩
      replace hb2 := bbl hb2 hb3
      clear hb3
      go_wp2_with fail
      refine (refMul_any _ _ _ _ _ H1.out H2.out).mono ?_; rw [HF.out.1, HF.out.2]; rintro e w3 ⟨rfl, hb3⟩
      replace hb2 := bbl hb2 hb3
      clear hb3
      go_wp2_with fail
      refine (refMod_any _ _ _ _ _ HP.out HV.out h0).mono ?_; rw [HFIN.out]; rintro e w3 ⟨rfl, hb3⟩
      replace hb2 := bbl hb2 hb3
      clear hb3
      go_wp2_with fail
      go_ret
      exact ⟨rfl, hb2⟩
  · clear hN1 hN2 hfin r1 r2 r3 hmul h64 hv
    go_enter Tryz.func133, Tryz.ntmps133
    go_wp2_with fail
    refine (refSmall_no _ _ _ HV.out (by omega)).mono ?_; rintro e w1 ⟨rfl, rfl⟩
    go_wp2_with fail
    refine (refMod_any _ _ _ _ _ HS.out HV.out h0).mono ?_; rintro e w2 ⟨rfl, hb2⟩
    go_wp2_with fail
    refine (refMod_any _ _ _ _ _ HT.out HV.out h0).mono ?_; rintro e w3 ⟨rfl, hb3⟩
    replace hb2 := bbl hb2 hb3
    clear hb3
    go_wp2_with fail
    refine (refMul_any _ _ _ _ _ H1.out H2.out).mono ?_; rw [HF.out.1, HF.out.2]; rintro e w3 ⟨rfl, hb3⟩
    replace hb2 := bbl hb2 hb3
    clear hb3
    go_wp2_with fail
    refine (refMod_any _ _ _ _ _ HP.out HV.out h0).mono ?_; rw [HFIN.out]; rintro e w3 ⟨rfl, hb3⟩
    replace hb2 := bbl hb2 hb3
    clear hb3
    go_wp2_with fail
    go_ret
    exact ⟨rfl, hb2⟩
namespace Num
theorem raise_sq (a q m : Nat) : (a ^ q % m) * (a ^ q % m) % m = a ^ (2 * q) % m := by
  rw [← Nat.mul_mod, ← Nat.pow_add, Nat.two_mul]
theorem raise_one (a q m : Nat) : (a ^ (2 * q) % m) * a % m = a ^ (2 * q + 1) % m := by
  rw [Nat.pow_succ, Nat.mul_mod (a ^ (2 * q)) a m, Nat.mul_mod (a ^ (2 * q) % m) a m, Nat.mod_mod]
theorem raise_start (a e m : Nat) : 1 % m = a ^ (e / 2 ^ bl e) % m := by
  rw [Nat.div_eq_of_lt (lt_bl e), Nat.pow_zero]
theorem raise_bit0 {e j : Nat} (h : tb e j = false) : e / 2 ^ j = 2 * (e / 2 ^ (j + 1)) := by
  have h1 := half_bit e j
  rw [tb_val, h] at h1
  simpa using h1
theorem raise_bit1 {e j : Nat} (h : tb e j = true) : e / 2 ^ j = 2 * (e / 2 ^ (j + 1)) + 1 := by
  have h1 := half_bit e j
  rw [tb_val, h] at h1
  simpa using h1
theorem bl_1024 {e : Nat} (h : blen e ≤ 128) : bl e ≤ 1024 := by
  have h1 : bl e ≤ 8 * blen e := by rw [bl_le_iff, Nat.pow_mul]; exact lt_blen e
  omega
theorem wrap_down {k : Nat} (h : k ≤ 1024) : IntKind.i64.wrap ((k : Int) - 1) = (k : Int) - 1 := by rw [IntKind.wrap_i64]; omega
end Num
set_option maxHeartbeats 4000000 in
theorem refRaise_any (s t v : ByteArray) (a e m : Nat) (w : World) (hs : IsN s a) (ht : IsN t e) (hv : IsN v m) (h0 : 0 < m) (h64 : v.size ≤ 64) :
    Calls Tryz.prog 107 #[.string s, .string t, .string v] w fun r w' => r = .returned (.string (enc (a ^ e % m))) ∧ Below w.heap.size w w' := by
  have HS := Lib.hid hs
  have HT := Lib.hid ht
  have HV := Lib.hid hv
  have H0 := Lib.hid h0
  have H64 := Lib.hid h64
  have HI := Lib.hid (IsN.mk' (show blen 1 ≤ 128 by decide))
  have hbl := bl_1024 ht.le
  have HN : Hid (∀ x, IsN (enc (x % m)) (x % m)) := fun x => IsN.mk' (mod_le hv h0)
  have hst := raise_start a e m
  have HST := Lib.hid hst
  have wr1 := wrap_down hbl
  clear hs ht hv h0 h64 hst
  go_enter Tryz.func107, Tryz.ntmps107
  go_wp2_with fail
  refine (refOf_any 1 _ (by omega)).mono ?_; rintro r w1 ⟨rfl, b1⟩
  go_wp2_with fail
  refine (refMod_any _ _ _ _ _ HI.out HV.out H0.out).mono ?_; rw [HST.out]; rintro r w2 ⟨rfl, b2⟩
  replace b1 := bbl b1 b2
  clear b2
  go_wp2_with fail
  refine (refBits_any _ _ _ HT.out).mono ?_; rintro r w3 ⟨rfl, rfl⟩
  go_wp2_with fail
  go_loopw [7, 8] (fun vo vi wr => ∃ k : Nat, k ≤ bl e ∧ vo = .string (enc (a ^ (e / 2 ^ k) % m)) ∧ vi = .int .i64 ((k : Int) - 1) ∧ Below w.heap.size w wr) (fun _ vi _ => (intOf vi + 1).toNat)
  case atStart => exact ⟨bl e, Nat.le_refl _, rfl, rfl, b1⟩
  case round =>
    clear b1 HST wr1
    obtain ⟨k, hk, rfl, rfl, hb⟩ := hrel
    cases k with
    | zero =>
      go_wp2_with fail
      go_ret
      exact ⟨by simp, hb⟩
    | succ j =>
      have hj : ((j + 1 : Nat) : Int) - 1 = (j : Int) := by omega
      rw [hj]
      have wr2 := wrap_down (k := j) (by omega)
      have hj2 : j ≤ 1000000 := by omega
      have hj3 : (0 : Int) ≤ (j : Int) := by omega
      have HB := Lib.hid hb
      clear hb hj
      go_wp2_with fail
      refine (refTimesM_any _ _ _ _ _ _ _ (HN.out _) (HN.out _) HV.out H0.out H64.out).mono ?_; rw [raise_sq]; rintro r w4 ⟨rfl, b4⟩
      replace HB := Lib.hid (bbl HB.out b4)
      clear b4
      go_wp2_with fail
      refine (refBit_any _ _ _ _ HT.out hj2).mono ?_
      cases hbit : tb e j
      · rintro r w5 ⟨rfl, rfl⟩
        have hq := raise_bit0 hbit
        rw [← hq]
        clear hq
        go_wp2_with fail
        exact ⟨⟨j, by omega, rfl, rfl, HB.out⟩, by simp [intOf]⟩
      · rintro r w5 ⟨rfl, rfl⟩
        have hq := Lib.hid (raise_bit1 hbit)
        go_wp2_with fail
        refine (refTimesM_any _ _ _ _ _ _ _ (HN.out _) HS.out HV.out H0.out H64.out).mono ?_; rw [raise_one, ← hq.out]; rintro r w6 ⟨rfl, b6⟩
        replace HB := Lib.hid (bbl HB.out b6)
        clear b6 hq
        go_wp2_with fail
        exact ⟨⟨j, by omega, rfl, rfl, HB.out⟩, by simp [intOf]⟩
theorem refMExp_any (s t v : ByteArray) (w : World) (h64 : v.size ≤ 64) :
    Calls Tryz.prog 69 #[.string s, .string t, .string v] w fun e w' => e = .returned (.tuple #[.string (mo (chk [s, t] [v]) (nv s ^ nv t % nv v)), .int .i64 (chk [s, t] [v])]) ∧ Below w.heap.size w w' := by
  have hc := chk_cases [s, t] [v]
  by_cases h0 : chk [s, t] [v] = 0
  · obtain ⟨hs, ht, hv, hp⟩ := chk21_inv h0
    rw [h0, mo_zero]
    have HS := Lib.hid hs
    have HT := Lib.hid ht
    have HV := Lib.hid hv
    have HK := Lib.hid h0
    clear hc h0 hs ht hv
    go_enter Tryz.func69, Tryz.ntmps69
    go_wp2_with fail
    refine (refCheck3 w s t v).mono ?_; rintro e w1 ⟨rfl, hb1⟩
    rw [HK.out]
    go_wp2_with fail
    refine (refRaise_any _ _ _ _ _ _ _ HS.out HT.out HV.out hp h64).mono ?_; rintro e w2 ⟨rfl, hb2⟩
    replace hb1 := bbl hb1 hb2
    clear hb2
    go_wp2_with fail
    go_ret2
    exact ⟨rfl, hb1⟩
  · rw [mo_bad h0]
    have hk : chk [s, t] [v] = 3 ∨ chk [s, t] [v] = 11 := hc.resolve_left h0
    clear hc h0
    rcases hk with hk | hk
    all_goals
      rw [hk]
      have HK := Lib.hid hk
      clear hk
      go_enter Tryz.func69, Tryz.ntmps69
      go_wp2_with fail
      refine (refCheck3 w s t v).mono ?_; rintro e w1 ⟨rfl, hb1⟩
      rw [HK.out]
      go_wp2_with fail
      go_ret2
      exact ⟨rfl, hb1⟩
theorem refCmp_any (s t : ByteArray) (a b : Nat) (w : World) (hs : IsN s a) (ht : IsN t b) :
    Calls Tryz.prog 60 #[.string s, .string t] w fun e w' => e = .returned (.int .i64 (ncmp a b)) ∧ Below w.heap.size w w' := by
  have v1 := hs.valid
  have v2 := ht.valid
  have z1 := hs.small
  have z2 := ht.small
  have HS := Lib.hid hs.eq; clear hs
  have HT := Lib.hid ht.eq; clear ht
  go_enter Tryz.func60, Tryz.ntmps60
  go_wp2_with fail
  refine (refValid_any _ _).mono ?_; rw [v1]; rintro e w' ⟨rfl, rfl⟩
  go_wp2_with fail
  refine (refValid_any _ _).mono ?_; rw [v2]; rintro e w' ⟨rfl, rfl⟩
  go_wp2_with fail
  refine (refOrder_any s t a b _ HS.out HT.out (by omega) (by omega)).mono ?_; rintro e w1 ⟨rfl, hb1⟩
  go_wp2_with fail
  go_ret
  exact ⟨rfl, hb1⟩
end Go.Proofs.YtjminjliomffaaaGreatDoor

/- The reference of layer 1: twos, Sqrt. -/
namespace Go.Proofs.YtjminjliomffaaaGreatDoor
open Go.RowKit Num
set_option maxRecDepth 20000
set_option exponentiation.threshold 3000
set_option linter.unusedVariables false
namespace Num
theorem nvL_zeros (k : Nat) : nvL (List.replicate k 0) = 0 := by
  induction k with
  | zero => rfl
  | succ k ih => rw [List.replicate_succ, nvL_cons, ih]; simp
theorem two_list {x : UInt8} {k i : Nat} (h : x.toNat = 2 ^ (i % 8)) (hk : k = i / 8) : nvL (x :: List.replicate k 0) = 2 ^ i := by
  rw [nvL_cons, nvL_zeros, List.length_replicate, h, hk, show (256 : Nat) = 2 ^ 8 from rfl, ← Nat.pow_mul, Nat.add_zero, ← Nat.pow_add]
  congr 1
  omega
theorem sq_bound {a k : Nat} (h : bl a ≤ 2 * k) : a < (0 + 2 ^ k) * (0 + 2 ^ k) := by
  rw [Nat.zero_add, ← Nat.pow_add, ← Nat.two_mul]
  exact (bl_le_iff a _).1 h
theorem sq_lt_iff {X F p : Nat} (h1 : X * X ≤ p) (h2 : p < (X + 1) * (X + 1)) : X < F ↔ p < F * F := by
  constructor
  · intro h
    exact Nat.lt_of_lt_of_le h2 (Nat.mul_le_mul h h)
  · intro h
    rcases Nat.lt_or_ge X F with h3 | h3
    · exact h3
    · exact absurd (Nat.mul_le_mul h3 h3) (by omega)
end Num
set_option maxHeartbeats 1000000 in
theorem refTwos_any (i : Nat) (w : World) (hi : i ≤ 1000000) :
    Calls Tryz.prog 105 #[.int .i64 (i : Int)] w fun e w' => e = .returned (.string (enc (2 ^ i))) ∧ Below w.heap.size w w' := by
  obtain ⟨i0, hii, hz0, hz1, hz2⟩ := info_parts info_u8
  obtain ⟨r, hr⟩ : ∃ r, i % 8 = r := ⟨_, rfl⟩
  have hr8 : r < 8 := by omega
  obtain ⟨m, hm⟩ : ∃ m, i / 8 = m := ⟨_, rfl⟩
  have hm8 : m ≤ 1000000 := by omega
  have t1 : (i : Int).tdiv 8 = (m : Int) := by rw [Int.tdiv_eq_ediv_of_nonneg (by omega)]; omega
  have t2 : (i : Int).tmod 8 = (r : Int) := by rw [Int.tmod_eq_emod_of_nonneg (by omega)]; omega
  have t3 : IntKind.i64.wrap ((m : Int) + 1) = (m : Int) + 1 := by rw [IntKind.wrap_i64]; omega
  have HR := Lib.hid (And.intro hr hm)
  clear hr hm
  go_enter Tryz.func105, Tryz.ntmps105
  go_wp2_with (at_make; refine wpList_make_arr _ rfl _ _ _ rfl 5 i0 .u8 1 Tryz.underlying78 hii hz0 hz1 hz2 _ _ _ _ (m + 1) rfl rfl ?_ ?_ ?_ ?_ ?_ <;> first | (intro w1 ha hb hsz; have hc0 := ha.cell (show 0 < m + 1 by omega); have hf0 := ha.free 0) | omega | (unfold maxLen; omega))
  have ha1 := ha.set 0 1
  have hb1 := hb.setCell (p := ⟨w.heap.size, 0, none⟩) (Nat.le_refl _) (.int .u8 1)
  generalize World.setCell _ _ _ = w2 at ha1 hb1 ⊢
  clear ha hb hsz hc0 hf0 hii hz0 hz1 hz2
  go_loopw [4] (fun v wr => ∃ k : Nat, k ≤ r ∧ v = .int .i64 k ∧ Arr wr w.heap.size 5 .u8 (m + 1) (upd (fun _ => 0) 0 ((2 ^ k : Nat) : Int)) ∧ Below w.heap.size w wr) (fun v _ => r - (intOf v).toNat)
  case atStart => exact ⟨0, by omega, rfl, ha1, hb1⟩
  case round =>
    clear ha1 hb1
    obtain ⟨k, hk, rfl, ha, hb⟩ := hrel
    by_cases hlt : k < r
    · have hc0 := ha.cell (show 0 < m + 1 by omega)
      have hf0 := ha.free 0
      have e0 : upd (fun _ => (0 : Int)) 0 ((2 ^ k : Nat) : Int) 0 = ((2 ^ k : Nat) : Int) := by simp [upd]
      rw [e0] at hc0
      have hp : 2 ^ k ≤ 64 := Nat.le_trans (Nat.pow_le_pow_right (by omega) (show k ≤ 6 by omega)) (by decide)
      have hp2 : 2 ^ (k + 1) = 2 ^ k * 2 := Nat.pow_succ ..
      obtain ⟨y, hy⟩ : ∃ y, 2 ^ k = y := ⟨_, rfl⟩
      rw [hy] at hc0 hp hp2
      have t4 : (y : Int) * 2 = ((2 ^ (k + 1) : Nat) : Int) := by rw [hp2]; omega
      have T4 := Lib.hid t4
      clear e0 hy hp2 t4 HR
      go_wp2_with fail
      rw [T4.out]
      have ha3 := ha.set 0 ((2 ^ (k + 1) : Nat) : Int)
      refine ⟨⟨k + 1, by omega, by go_num, ?_, hb.setCell (Nat.le_refl _) _⟩, by simp [intOf]; omega⟩
      refine ha3.congr fun j hj => ?_
      unfold upd
      split <;> rfl
    · obtain rfl : k = r := by omega
      obtain ⟨x, hx⟩ : ∃ x : UInt8, x.toNat = 2 ^ k := ⟨UInt8.ofNat (2 ^ k), by
        have hp : 2 ^ k ≤ 128 := Nat.le_trans (Nat.pow_le_pow_right (by omega) (show k ≤ 7 by omega)) (by decide)
        generalize 2 ^ k = q at hp ⊢
        rw [UInt8.toNat_ofNat']; omega⟩
      have hbr : BytesAt wr w.heap.size 0 (x :: List.replicate m 0) := by
        intro j hj
        have hj2 : j < m + 1 := by simpa using hj
        rw [Nat.zero_add, ha.cell hj2]
        congr 2
        cases j with
        | zero => simp [upd, hx]
        | succ j => simp [upd]
      have hcv := conv_back wr w.heap.size 0 (m + 1) (x :: List.replicate m 0) hbr
      rw [show (x :: List.replicate m (0 : UInt8)).length = m + 1 from by simp] at hcv
      have hfin : ByteArray.mk (x :: List.replicate m (0 : UInt8)).toArray = enc (2 ^ i) := by
        have hx0 : x ≠ 0 := fun e => by
          rw [e] at hx
          have : (0 : Nat) < 2 ^ k := Nat.pos_of_ne_zero (by simp)
          simp at hx
          omega
        rw [← two_list (x := x) (k := m) (i := i) (by rw [hx, HR.out.1]) HR.out.2.symm]
        unfold enc
        rw [encL_nvL _ (by simp [hx0])]
      have HFIN := Lib.hid hfin
      clear hbr hfin hx ha
      go_wp2_with fail
      go_ret
      exact ⟨ret_str HFIN.out, hb⟩
set_option maxHeartbeats 2000000 in
theorem refSqrt_any (s : ByteArray) (a : Nat) (w : World) (hs : IsN s a) :
    Calls Tryz.prog 68 #[.string s] w fun e w' => ∃ X, X * X ≤ a ∧ a < (X + 1) * (X + 1) ∧ e = .returned (.tuple #[.string (enc X), .int .i64 0]) ∧ Below w.heap.size w w' := by
  have HV := Lib.hid hs.valid
  have hsz := hs.size
  have hle := hs.le
  have HE := Lib.hid hs.eq
  obtain ⟨B, hB⟩ : ∃ B, bl a = B := ⟨_, rfl⟩
  have hbl : B ≤ 1024 := by
    rw [← hB]
    have h1 : bl a ≤ 8 * blen a := by rw [bl_le_iff, Nat.pow_mul]; exact lt_blen a
    omega
  obtain ⟨j0, hj0⟩ : ∃ j0, (B + 1) / 2 = j0 := ⟨_, rfl⟩
  have t1 : ((B : Int) + 1).tdiv 2 = (j0 : Int) := by rw [Int.tdiv_eq_ediv_of_nonneg (by omega)]; omega
  have hst : Hid (a < (0 + 2 ^ (j0 + 1)) * (0 + 2 ^ (j0 + 1))) := Lib.hid (sq_bound (by rw [hB]; omega))
  have ha256 : a < 256 ^ 128 := (blen_le_iff _ _).1 hle
  have HA := Lib.hid ha256
  have hj : j0 ≤ 513 := by omega
  have hs128 : s.size ≤ 128 := by omega
  have HB := Lib.hid hB
  clear hs hsz hle hB hj0 ha256
  go_enter Tryz.func68, Tryz.ntmps68
  go_wp2_with fail
  refine (refValid_any s _).mono ?_; rw [HV.out]; rintro e w1 ⟨rfl, rfl⟩
  go_wp2_with fail
  refine (refbits_any s a _ HE.out (by omega)).mono ?_; rw [HB.out]; rintro e w1 ⟨rfl, rfl⟩
  go_wp2_with fail
  clear HV HB t1
  go_loopw [4, 5] (fun vx vi wr => ∃ j X : Nat, j ≤ j0 + 1 ∧ vx = .string (enc X) ∧ vi = .int .i64 ((j : Int) - 1) ∧ Hid (X * X ≤ a) ∧ Hid (a < (X + 2 ^ j) * (X + 2 ^ j)) ∧ Below w.heap.size w wr) (fun _ vi _ => (intOf vi + 1).toNat)
  case atStart => exact ⟨j0 + 1, 0, by omega, rfl, by congr 1; omega, by simp [Hid], hst, Below.refl _ _⟩
  case round =>
    clear hst
    obtain ⟨j, X, hjj, rfl, rfl, hX, hU, hb⟩ := hrel
    cases j with
    | zero =>
      go_wp2_with fail
      go_ret2
      exact ⟨X, hX.out, hU.out, rfl, hb⟩
    | succ j =>
      have e1 : ((j + 1 : Nat) : Int) - 1 = (j : Int) := by omega
      rw [e1]
      have hj2 : j ≤ 1000000 := by omega
      have hj3 : (0 : Int) ≤ (j : Int) := by omega
      have wr2 : IntKind.i64.wrap ((j : Int) - 1) = (j : Int) - 1 := by rw [IntKind.wrap_i64]; omega
      have hXa : X ≤ a := Nat.le_trans (by rcases Nat.eq_zero_or_pos X with h | h; · omega
                                           · exact Nat.le_mul_of_pos_left X h) hX.out
      have z1 : (enc X).size ≤ 128 := by rw [size_enc, blen_le_iff]; exact Nat.lt_of_le_of_lt hXa HA.out
      have hp : 2 ^ j < 256 ^ 128 := by
        rw [show (256 : Nat) = 2 ^ 8 from rfl, ← Nat.pow_mul]
        exact Nat.pow_lt_pow_right (by omega) (by omega)
      have z2 : (enc (2 ^ j)).size ≤ 128 := by rw [size_enc, blen_le_iff]; exact hp
      have z3 : (enc (X + 2 ^ j)).size ≤ 129 := by
        rw [size_enc, blen_le_iff]
        have h1 := HA.out
        have h2 : (256 : Nat) ^ 129 = 256 ^ 128 * 256 := Nat.pow_succ ..
        omega
      have z4 : (enc ((X + 2 ^ j) * (X + 2 ^ j))).size ≤ 258 := by
        rw [size_enc, blen_le_iff]
        rw [size_enc, blen_le_iff] at z3
        calc (X + 2 ^ j) * (X + 2 ^ j) < 256 ^ 129 * 256 ^ 129 := Nat.mul_lt_mul'' z3 z3
          _ = 256 ^ 258 := by rw [← Nat.pow_add]
      have Z := Lib.hid (And.intro z1 (And.intro z2 (And.intro z3 z4)))
      have HU2 : Hid (a < (X + 2 ^ j + 2 ^ j) * (X + 2 ^ j + 2 ^ j)) := by
        have := hU.out
        rw [Nat.pow_succ, Nat.mul_two, ← Nat.add_assoc] at this
        exact this
      have HB := Lib.hid hb
      clear hU hb e1 hXa z1 z2 z3 z4 hp
      go_wp2_with fail
      refine (refTwos_any j _ hj2).mono ?_; rintro e w1 ⟨rfl, b1⟩
      replace HB := Lib.hid (bbl HB.out b1)
      clear b1
      go_wp2_with fail
      refine (refPlus_any _ _ X (2 ^ j) _ rfl rfl (by have := Z.out.1; omega) (by have := Z.out.2.1; omega)).mono ?_; rintro e w2 ⟨rfl, b2⟩
      replace HB := Lib.hid (bbl HB.out b2)
      clear b2
      obtain ⟨Y, hY⟩ : ∃ Y, X + 2 ^ j = Y := ⟨_, rfl⟩
      rw [hY] at Z HU2 ⊢
      have HY := Lib.hid hY
      clear hY
      go_wp2_with fail
      refine (refTimes_any _ _ Y Y _ rfl rfl (by have := Z.out.2.2.1; omega) (by have := Z.out.2.2.1; omega)).mono ?_; rintro e w3 ⟨rfl, b3⟩
      replace HB := Lib.hid (bbl HB.out b3)
      clear b3
      obtain ⟨D, hD⟩ : ∃ D, Y * Y = D := ⟨_, rfl⟩
      rw [hD] at Z ⊢
      have HD := Lib.hid hD
      clear hD
      go_wp2_with fail
      refine (refOrder_any _ _ D a _ rfl HE.out (by have := Z.out.2.2.2; omega) (by omega)).mono ?_
      rcases ncmp3 D a with ⟨hc, he⟩ | ⟨hc, he⟩ | ⟨hc, he⟩
      · rw [he]; rintro e w4 ⟨rfl, b4⟩; replace HB := Lib.hid (bbl HB.out b4); clear b4
        have hx : Hid (Y * Y ≤ a) := by have := HD.out; show _ ≤ _; omega
        clear hc he
        go_wp2_with fail
        exact ⟨⟨j, Y, by omega, rfl, rfl, hx, HU2, HB.out⟩, by simp [intOf]⟩
      · rw [he]; rintro e w4 ⟨rfl, b4⟩; replace HB := Lib.hid (bbl HB.out b4); clear b4
        have hx : Hid (Y * Y ≤ a) := by have := HD.out; show _ ≤ _; omega
        clear hc he
        go_wp2_with fail
        exact ⟨⟨j, Y, by omega, rfl, rfl, hx, HU2, HB.out⟩, by simp [intOf]⟩
      · rw [he]; rintro e w4 ⟨rfl, b4⟩; replace HB := Lib.hid (bbl HB.out b4); clear b4
        have hx : Hid (a < (X + 2 ^ j) * (X + 2 ^ j)) := by rw [HY.out, HD.out]; exact hc
        clear hc he
        go_wp2_with fail
        exact ⟨⟨j, X, by omega, rfl, rfl, hX, hx, HB.out⟩, by simp [intOf]⟩
end Go.Proofs.YtjminjliomffaaaGreatDoor

/- The reference of layer 7: less, covers, formed. -/
namespace Go.Proofs.YtjminjliomffaaaGreatDoor
open Go.RowKit Num
set_option maxRecDepth 20000
set_option linter.unusedVariables false
theorem rOf1 (w : World) : Calls Tryz.prog 29 #[.int .u64 1] w fun e w' => e = .returned (.string (enc 1)) ∧ Below w.heap.size w w' := refOf_any 1 w (by omega)
theorem rOf2 (w : World) : Calls Tryz.prog 29 #[.int .u64 2] w fun e w' => e = .returned (.string (enc 2)) ∧ Below w.heap.size w w' := refOf_any 2 w (by omega)
theorem rValQ {s : ByteArray} {b : Bool} (h : validB s = b) : ∀ w, Calls Tryz.prog 34 #[.string s] w fun e w' => e = .returned (.bool b) ∧ w' = w := fun w => (refValid_any s w).mono fun _ _ ⟨h1, h2⟩ => ⟨by rw [h1, h], h2.symm⟩
theorem rValW {s : ByteArray} {b : Bool} (h : validB s = b) : ∀ w, Calls Tryz.prog 34 #[.string s] w fun e w' => e = .returned (.bool b) ∧ Below w.heap.size w w' := fun w => (refValid_any s w).mono fun _ _ ⟨h1, h2⟩ => ⟨by rw [h1, h], by rw [← h2]; exact Below.refl _ _⟩
theorem r7less_any (s t : ByteArray) (a b : Nat) (w : World) (hs : IsN s a) (ht : IsN t b) :
    Calls Tryz.prog 35 #[.string s, .string t] w fun e w' => e = .returned (.bool (decide (a < b))) ∧ Below w.heap.size w w' := by
  have HC := fun w => refCmp_any s t a b w hs ht
  rcases ncmp3 a b with ⟨h8, u2⟩ | ⟨h8, u2⟩ | ⟨h8, u2⟩
  all_goals
    rw [u2] at HC
    have HC := Lib.hid HC
    first | rw [show decide (a < b) = false from decide_eq_false (by omega)] | rw [show decide (a < b) = true from decide_eq_true (by omega)]
    clear h8 u2 hs ht
    go_enter Tryz.func35, Tryz.ntmps35
    go_wp2_with fail
    refine (HC.out _).mono ?_; rintro e w1 ⟨rfl, b1⟩
    go_wp2_with fail
    go_ret
    exact ⟨rfl, b1⟩
theorem lessW {s t : ByteArray} {a b : Nat} {B : Bool} (hs : IsN s a) (ht : IsN t b) (h : decide (a < b) = B) : ∀ w, Calls Tryz.prog 35 #[.string s, .string t] w fun e w' => e = .returned (.bool B) ∧ Below w.heap.size w w' := fun w => by
  have := r7less_any s t a b w hs ht
  rw [h] at this
  exact this
theorem r7covers_any (s t : ByteArray) (a b : Nat) (w : World) (hs : IsN s a) (ht : IsN t b) :
    Calls Tryz.prog 40 #[.string s, .string t] w fun e w' => e = .returned (.bool (decide (a < b * b))) ∧ Below w.heap.size w w' := by
  have HT := Lib.hid ht
  have HS := Lib.hid hs
  clear ht hs
  go_enter Tryz.func40, Tryz.ntmps40
  go_wp2_with fail
  refine (refSqrt_any s a _ HS.out).mono ?_; rintro e w1 ⟨X, h1, h2, rfl, b1⟩
  have IX : IsN (enc X) X := IsN.mk' (Nat.le_trans (blen_mono (by
    rcases Nat.eq_zero_or_pos X with h | h
    · omega
    · exact Nat.le_trans (Nat.le_mul_of_pos_left X h) h1)) HS.out.le)
  have e1 : decide (X < b) = decide (a < b * b) := decide_eq_decide.2 (sq_lt_iff h1 h2)
  have HL := Lib.hid (lessW IX HT.out e1)
  clear h1 h2 IX e1
  go_wp2_with fail
  refine (HL.out _).mono ?_; rintro e w2 ⟨rfl, b2⟩
  have b3 := b1.trans (b2.mono b1.size)
  go_wp2_with fail
  go_ret
  exact ⟨rfl, b3⟩
theorem keepF {w0 w1 w2 : World} {b : Nat} {P A v : Value} (h : w1.cell? ⟨b, 0, none⟩ = some P ∧ w1.cell? ⟨b, 1, none⟩ = some A ∧ StB w1 b P A v ∧ Below w0.heap.size w0 w1) (b2 : Below w1.heap.size w1 w2) : w2.cell? ⟨b, 0, none⟩ = some P ∧ w2.cell? ⟨b, 1, none⟩ = some A ∧ StB w2 b P A v ∧ Below w0.heap.size w0 w2 :=
  ⟨cellB_keep h.1 b2, cellB_keep h.2.1 b2, h.2.2.1.below b2 h.2.2.1.lt, h.2.2.2.trans (b2.mono h.2.2.2.size)⟩
set_option maxHeartbeats 8000000 in
theorem r7formed_any (P A : ByteArray) (fa : Option Addr) (fc n i : Nat) (F : List Int) (w : World) (hF : FS w fa F) (hn : F.length = n) (hbig : n ≤ maxLen) (hi : i ≤ maxLen) :
    Calls Tryz.prog 16 #[.agg #[.string P, .string A, .slice fa n fc], .int .i64 (i : Int)] w fun e w' => e = .returned (.bool (wfB i (P, A, F))) ∧ Below w.heap.size w w' := by
  unfold maxLen at hi hbig
  have hS := StB.new (P := .string P) (A := .string A) (v := .slice fa n fc) w
  have hb := (Below.refl _ w).alloc (Nat.le_refl _) (.cells #[.string P, .string A, .slice fa n fc] 38)
  have HF := Lib.hid (hF.below hb (Nat.le_refl _))
  have HN := Lib.hid hn
  obtain ⟨V, hV⟩ : ∃ V, wfB i (P, A, F) = V := ⟨_, rfl⟩
  rw [hV]
  unfold wfB at hV
  clear hF hn
  by_cases hvP : validB P = true
  · by_cases hvA : validB A = true
    · have hPN := isN_of hvP
      have hAN := isN_of hvA
      have HVP := Lib.hid (rValW hvP)
      have HVA := Lib.hid (rValW hvA)
      obtain ⟨L, hL⟩ : ∃ L, decide (nv P < 2) = L := ⟨_, rfl⟩
      have HLP := Lib.hid (lessW hPN isC2 hL)
      simp only [hvP, hvA, Bool.true_and] at hV
      have HA := Lib.hid (And.intro hPN hAN)
      have HL := Lib.hid hL
      have HV := Lib.hid hV
      clear hvP hvA hPN hAN hV hL
      go_enter Tryz.func16, Tryz.ntmps16
      go_wp2_with fail
      generalize World.alloc _ _ = w0 at hS hb HF ⊢
      have c0 := hS.c0
      have c1 := hS.c1
      go_cut [22] from 23 (fun v22 wc => v22 = .bool L ∧ StB wc w.heap.size (.string P) (.string A) (.slice fa n fc) ∧ Below w0.heap.size w0 wc)
      case first =>
        have hb0 := Below.refl w0.heap.size w0
        cases L
        all_goals
          go_region_held3 (fun w' => w'.cell? ⟨w.heap.size, 0, none⟩ = some (.string P) ∧ w'.cell? ⟨w.heap.size, 1, none⟩ = some (.string A) ∧ StB w' w.heap.size (.string P) (.string A) (.slice fa n fc) ∧ Below w0.heap.size w0 w')
            (first | exact ⟨c0, c1, hS, hb0.drew⟩ | assumption | (refine keepF ?_ bn; assumption))
            (first
              | (go_at_call 34; (with_reducible refine (HVP.out _).mono ?_); rintro e wn ⟨rfl, bn⟩)
              | (go_at_call 34; (with_reducible refine (HVA.out _).mono ?_); rintro e wn ⟨rfl, bn⟩)
              | (go_at_call 29; (with_reducible refine (rOf2 _).mono ?_); rintro e wn ⟨rfl, bn⟩)
              | (go_at_call 35; (with_reducible refine (HLP.out _).mono ?_); rintro e wn ⟨rfl, bn⟩))
        all_goals (go_split_ands; go_wp2_with fail; go_meet; exact ⟨rfl, by assumption, by assumption⟩)
      case rest =>
        clear hS c0 c1
        obtain ⟨rfl, hS, hbc⟩ := hcut
        have hb1 := hb.trans (hbc.mono hb.size)
        have c0 := hS.c0
        have c1 := hS.c1
        have c2 := hS.c2
        replace HF := Lib.hid (HF.out.below hbc (Nat.le_refl _))
        clear hbc hb
        have hV := HV.out
        cases L
        · have h2P : 2 ≤ nv P := by have := HL.out; rw [decide_eq_false_iff_not] at this; omega
          rw [decide_eq_true h2P, Bool.true_and] at hV
          clear HL HLP HV
          by_cases hF0 : F = []
          · have hn0 : n = 0 := by rw [← HN.out, hF0]; rfl
            subst hn0
            rw [if_pos hF0] at hV
            clear hF0 HF
            by_cases hA : A.size = 0
            · obtain rfl : A = ⟨#[]⟩ := by cases A with | mk d => simp [ByteArray.size] at hA; simp [hA]
              obtain rfl : V = true := hV.symm
              go_wp2_with fail
              go_ret
              exact ⟨rfl, hb1⟩
            · obtain rfl : V = false := by rw [← hV]; exact decide_eq_false hA
              obtain ⟨n1, n2⟩ := tl_neC hA
              go_wp2_with fail
              go_ret
              exact ⟨rfl, hb1⟩
          · have hn1 : ¬ ((n : Int) = 0) := by
              have : n ≠ 0 := fun e => hF0 (List.length_eq_zero_iff.1 (HN.out.trans e))
              omega
            have hn2 : ((n : Int) == 0) = false := by rw [beq_eq_false_iff_ne]; exact hn1
            rw [if_neg hF0] at hV
            obtain ⟨B1, hB1⟩ : ∃ B1, (decide (2 ≤ nv A) && decide (nv A < nv P)) = B1 := ⟨_, rfl⟩
            rw [hB1] at hV
            have HB1 := Lib.hid hB1
            have H0 : Hid ((asc i (loF F 0) (F.drop 0) && B1) = V) := hV
            clear hV hF0 hB1
            go_wp2_with fail
            go_loopw [5, 6] (fun v5 v6 wr => ∃ k : Nat, k ≤ n ∧ v5 = .int .i64 (loF F k) ∧ v6 = .int .i64 (k : Int) ∧ Hid ((asc i (loF F k) (F.drop k) && B1) = V) ∧ wr = wc) (fun _ v6 _ => n - (intOf v6).toNat)
            case atStart => exact ⟨0, by omega, rfl, rfl, H0, rfl⟩
            case round =>
              clear H0
              obtain ⟨k, hk, rfl, rfl, hV, rfl⟩ := hrel
              by_cases hlt : k < n
              · have hkF : k < F.length := by rw [HN.out]; exact hlt
                obtain ⟨fb, foff, rfl, hcell⟩ := HF.out k hkF
                have hA := asc_at (i := i) (lo := loF F k) hkF
                have hls := loF_succ hkF
                have hw := hV.out
                rw [hA] at hw
                generalize F[k] = f at hcell hA hls hw
                generalize loF F k = lo at hw
                clear hA hkF hV
                by_cases t3 : f ≤ lo
                · have hVf : V = false := by
                    rw [← hw, decide_eq_false (show ¬ lo < f by omega)]; rfl
                  subst hVf
                  have e4 : decide (f ≤ lo) = true := decide_eq_true t3
                  clear hw hls
                  go_wp2_with fail
                  go_ret
                  exact ⟨rfl, hb1⟩
                · have e4 : decide (f ≤ lo) = false := decide_eq_false t3
                  by_cases t2 : (i : Int) ≤ f
                  · have hVf : V = false := by
                      rw [← hw, decide_eq_false (show ¬ f < (i : Int) by omega)]; simp
                    subst hVf
                    have e2 : decide ((i : Int) ≤ f) = true := decide_eq_true t2
                    clear hw hls
                    go_wp2_with fail
                    go_ret
                    exact ⟨rfl, hb1⟩
                  · have e2 : decide ((i : Int) ≤ f) = false := decide_eq_false t2
                    rw [decide_eq_true (show f < (i : Int) by omega), decide_eq_true (show lo < f by omega), Bool.true_and, Bool.true_and, ← hls] at hw
                    have HW2 := Lib.hid hw
                    have HLS := Lib.hid hls
                    clear hw hls
                    go_wp2_with fail
                    exact ⟨⟨k + 1, by omega, by rw [HLS.out], by go_num, HW2, by trivial⟩, by simp [intOf]; omega⟩
              · obtain rfl : k = n := by omega
                have hBV : B1 = V := by
                  have := hV.out
                  rw [List.drop_of_length_le (by rw [HN.out]; omega)] at this
                  exact this
                subst hBV
                clear hV HN HF
                have hB1' := HB1.out
                clear HB1
                obtain ⟨M, hM⟩ : ∃ M, decide (nv A < 2) = M := ⟨_, rfl⟩
                have HL1 := Lib.hid (lessW HA.out.2 isC2 hM)
                cases M
                · rw [decide_eq_false_iff_not] at hM
                  rw [decide_eq_true (show 2 ≤ nv A by omega), Bool.true_and] at hB1'
                  have HL2 := Lib.hid (lessW HA.out.2 HA.out.1 hB1')
                  clear hM hB1'
                  have hb0 := Below.refl wr.heap.size wr
                  go_wp2_with fail
                  go_region_held3 (fun w' => w'.cell? ⟨w.heap.size, 0, none⟩ = some (.string P) ∧ w'.cell? ⟨w.heap.size, 1, none⟩ = some (.string A) ∧ StB w' w.heap.size (.string P) (.string A) (.slice fa k fc) ∧ Below wr.heap.size wr w')
                    (first | exact ⟨c0, c1, hS, hb0.drew⟩ | assumption | (refine keepF ?_ bn; assumption))
                    (first
                      | (go_at_call 29; (with_reducible refine (rOf2 _).mono ?_); rintro e wn ⟨rfl, bn⟩)
                      | (go_at_call 35; (with_reducible refine (HL1.out _).mono ?_); rintro e wn ⟨rfl, bn⟩)
                      | (go_at_call 35; (with_reducible refine (HL2.out _).mono ?_); rintro e wn ⟨rfl, bn⟩))
                  all_goals (go_split_ands; have hq := hb1.trans ((by assumption : Below wr.heap.size wr _).mono hb1.size); go_wp2_with fail; go_ret; exact ⟨rfl, hq⟩)
                · rw [decide_eq_true_eq] at hM
                  rw [decide_eq_false (show ¬ 2 ≤ nv A by omega), Bool.false_and] at hB1'
                  subst hB1'
                  clear hM
                  have hB := Below.refl wr.heap.size wr
                  go_wp2_with fail
-- {{F1
                  refine wp_region_held_drew (S := (fun w' => w'.cell? ⟨w.heap.size, 0, none⟩ = some (.string P) ∧ w'.cell? ⟨w.heap.size, 1, none⟩ = some (.string A) ∧ StB w' w.heap.size (.string P) (.string A) (.slice fa k fc) ∧ Below wr.heap.size wr w')) (by kernel_rfl) ⟨c0, c1, hS, hB.drew⟩ (fun hS0 => ?_)
                  clear hS
                  have hS := hS0
                  clear hS0
                  refine wpAnyH_take (i := 0) (oi := { dst := some 58, op := _, type := _, pos := _, after := _, guard := _ }) (v := .pointer (some (⟨w.heap.size, 1, none⟩ : Addr))) rfl (by kernel_rfl) (by kernel_rfl) (by kernel_rfl) (fun _ _ _ h => h) (Or.inl ⟨by rfl, fun w' hSw => (by (try dsimp only at hSw); go_simp)⟩) (by assumption) ?_
                  try simp only [Act.put, List.setIfInBounds_toArray, List.set_cons_zero, List.set_cons_succ]
                  refine wpAnyH_take (i := 1) (oi := { dst := some 59, op := _, type := _, pos := _, after := _, guard := _ }) (v := .string A) rfl (by kernel_rfl) (by kernel_rfl) (by kernel_rfl) (fun _ _ _ h => h) (Or.inl ⟨by rfl, fun w' hSw => (by (try dsimp only at hSw); obtain ⟨f0, f1, _, _⟩ := hSw; go_simp)⟩) (by assumption) ?_
                  try simp only [Act.put, List.setIfInBounds_toArray, List.set_cons_zero, List.set_cons_succ]
                  refine wpAnyH_ready (rs := [2]) (by kernel_rfl) (by simp) ?_
                  refine AllReadyH.cons rfl (fun K hK => ?_) AllReadyH.nil
                  rw [if_pos (by rfl)]
                  go_simp
                  go_at_call 29
                  refine (rOf2 _).mono ?_; rintro e wn ⟨rfl, bn⟩
                  try go_simp
                  refine hK.out _ _ (keepF hS bn) (fun hT => ?_)
                  clear bn hK hS
                  have hS := hT
                  clear hT
                  try simp only [Act.put, List.setIfInBounds_toArray, List.set_cons_zero, List.set_cons_succ]
                  refine wpAnyH_ready (rs := [3]) (by kernel_rfl) (by simp) ?_
                  refine AllReadyH.cons rfl (fun K hK => ?_) AllReadyH.nil
                  rw [if_pos (by rfl)]
                  go_simp
                  go_at_call 35
                  refine (HL1.out _).mono ?_; rintro e wn ⟨rfl, bn⟩
                  try go_simp
                  refine hK.out _ _ (keepF hS bn) (fun hT => ?_)
                  clear bn hK hS
                  have hS := hT
                  clear hT
                  try simp only [Act.put, List.setIfInBounds_toArray, List.set_cons_zero, List.set_cons_succ]
                  refine wpAnyH_take (i := 4) (oi := { dst := some 62, op := _, type := _, pos := _, after := _, guard := _ }) (v := .bool false) rfl (by kernel_rfl) (by kernel_rfl) (by kernel_rfl) (fun _ _ _ h => h) (Or.inl ⟨by rfl, fun w' hSw => (by (try dsimp only at hSw); go_simp)⟩) (by assumption) ?_
                  try simp only [Act.put, List.setIfInBounds_toArray, List.set_cons_zero, List.set_cons_succ]
                  refine wpAnyH_take (i := 5) (oi := { dst := some 63, op := _, type := _, pos := _, after := _, guard := _ }) (v := .bool false) rfl (by kernel_rfl) (by kernel_rfl) (by kernel_rfl) (fun _ _ _ h => h) (Or.inl ⟨by rfl, fun w' hSw => (by (try dsimp only at hSw); go_simp)⟩) (by assumption) ?_
                  try simp only [Act.put, List.setIfInBounds_toArray, List.set_cons_zero, List.set_cons_succ]
                  refine wpAnyH_take (i := 6) (oi := { dst := some 64, op := _, type := _, pos := _, after := _, guard := _ }) (v := undef) rfl (by kernel_rfl) (by kernel_rfl) (by kernel_rfl) (fun _ _ _ h => h) (Or.inr ⟨by kernel_rfl, rfl⟩) (by assumption) ?_
                  try simp only [Act.put, List.setIfInBounds_toArray, List.set_cons_zero, List.set_cons_succ]
                  refine wpAnyH_take (i := 7) (oi := { dst := some 65, op := _, type := _, pos := _, after := _, guard := _ }) (v := undef) rfl (by kernel_rfl) (by kernel_rfl) (by kernel_rfl) (fun _ _ _ h => h) (Or.inr ⟨by kernel_rfl, rfl⟩) (by assumption) ?_
                  try simp only [Act.put, List.setIfInBounds_toArray, List.set_cons_zero, List.set_cons_succ]
                  refine wpAnyH_take (i := 8) (oi := { dst := some 66, op := _, type := _, pos := _, after := _, guard := _ }) (v := undef) rfl (by kernel_rfl) (by kernel_rfl) (by kernel_rfl) (fun _ _ _ h => h) (Or.inr ⟨by kernel_rfl, rfl⟩) (by assumption) ?_
                  try simp only [Act.put, List.setIfInBounds_toArray, List.set_cons_zero, List.set_cons_succ]
                  refine wpAnyH_take (i := 9) (oi := { dst := some 67, op := _, type := _, pos := _, after := _, guard := _ }) (v := undef) rfl (by kernel_rfl) (by kernel_rfl) (by kernel_rfl) (fun _ _ _ h => h) (Or.inr ⟨by kernel_rfl, rfl⟩) (by assumption) ?_
                  try simp only [Act.put, List.setIfInBounds_toArray, List.set_cons_zero, List.set_cons_succ]
                  refine wpAnyH_take (i := 10) (oi := { dst := some 68, op := _, type := _, pos := _, after := _, guard := _ }) (v := undef) rfl (by kernel_rfl) (by kernel_rfl) (by kernel_rfl) (fun _ _ _ h => h) (Or.inr ⟨by kernel_rfl, rfl⟩) (by assumption) ?_
                  try simp only [Act.put, List.setIfInBounds_toArray, List.set_cons_zero, List.set_cons_succ]
                  refine wpAnyH_take (i := 11) (oi := { dst := some 69, op := _, type := _, pos := _, after := _, guard := _ }) (v := .bool false) rfl (by kernel_rfl) (by kernel_rfl) (by kernel_rfl) (fun _ _ _ h => h) (Or.inl ⟨by rfl, fun w' hSw => (by (try dsimp only at hSw); go_simp)⟩) (by assumption) ?_
                  try simp only [Act.put, List.setIfInBounds_toArray, List.set_cons_zero, List.set_cons_succ]
                  refine wpAnyH_take (i := 12) (oi := { dst := some 4, op := _, type := _, pos := _, after := _, guard := _ }) (v := .bool false) rfl (by kernel_rfl) (by kernel_rfl) (by kernel_rfl) (fun _ _ _ h => h) (Or.inl ⟨by rfl, fun w' hSw => (by (try dsimp only at hSw); go_simp)⟩) (by assumption) ?_
                  try simp only [Act.put, List.setIfInBounds_toArray, List.set_cons_zero, List.set_cons_succ]
                  refine wpAnyH_done (by kernel_rfl) ?_ _
-- }}F1
                  have hq := hb1.trans (hS.2.2.2.mono hb1.size)
                  go_wp2_with fail
                  go_ret
                  exact ⟨rfl, hq⟩
        · have h2P : ¬ 2 ≤ nv P := by have := HL.out; rw [decide_eq_true_eq] at this; omega
          obtain rfl : V = false := by rw [← hV, decide_eq_false h2P, Bool.false_and]
          go_wp2_with fail
          go_ret
          exact ⟨rfl, hb1⟩
    · have hA0 : validB A = false := by simpa using hvA
      have hAe : A.size ≠ 0 := fun e => by
        obtain rfl : A = ⟨#[]⟩ := by cases A with | mk d => simp [ByteArray.size] at e; simp [e]
        exact hvA (by decide +kernel)
      obtain rfl : V = false := by
        rw [← hV, hA0]
        split
        · rw [decide_eq_false hAe]; simp
        · simp
      have HVP := Lib.hid (rValQ hvP)
      have HVA := Lib.hid (rValQ hA0)
      clear hvP hvA hA0 hAe hV
      go_enter Tryz.func16, Tryz.ntmps16
      go_wp2_with fail
      generalize World.alloc _ _ = w0 at hS hb HF ⊢
      have c0 := hS.c0
      have c1 := hS.c1
      go_quiet (first | (go_at_call 34; with_reducible exact Calls.quiet_of_same (HVP.out _)) | (go_at_call 34; with_reducible exact Calls.quiet_of_same (HVA.out _)))
      have hq : Below w.heap.size w (w0.drewN nq) := hb.trans (Below.drewN _ _ _)
      generalize World.drewN _ _ = w2 at hq ⊢
      go_wp2_with fail
      go_ret
      exact ⟨rfl, hq⟩
  · have hP0 : validB P = false := by simpa using hvP
    obtain rfl : V = false := by rw [← hV, hP0, Bool.false_and]
    have HVP := Lib.hid (rValQ hP0)
    clear hvP hP0 hV
    go_enter Tryz.func16, Tryz.ntmps16
    go_wp2_with fail
    generalize World.alloc _ _ = w0 at hS hb HF ⊢
    have c0 := hS.c0
    have c1 := hS.c1
    go_quiet ((go_at_call 34; exact Calls.quiet_of_same (HVP.out _)))
    have hq : Below w.heap.size w (w0.drewN nq) := hb.trans (Below.drewN _ _ _)
    generalize World.drewN _ _ = w2 at hq ⊢
    go_wp2_with fail
    go_ret
    exact ⟨rfl, hq⟩
end Go.Proofs.YtjminjliomffaaaGreatDoor
