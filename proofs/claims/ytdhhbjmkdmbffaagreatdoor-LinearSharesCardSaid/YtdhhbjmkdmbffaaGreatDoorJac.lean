import Derived.Test.YtdhhbjmkdmbffaaGreatDoorInv
import Derived.Test.YtdhhbjmkdmbffaaGreatDoorRfA
/- modular.Jacobi. -/
namespace Go.Proofs.YtdhhbjmkdmbffaaGreatDoor
open Go.RowKit Num
set_option maxRecDepth 20000
set_option linter.unusedVariables false
namespace Num
/-- the Jacobi symbol by reciprocity, times s; f bounds the number of steps -/
def jacF : Nat → Nat → Nat → Int → Int
  | 0, _, _, _ => 0
  | f + 1, a, n, s => if a = 0 then (if n = 1 then s else 0) else if a % 2 = 0 then jacF f (a / 2) n (if n % 8 = 3 ∨ n % 8 = 5 then -s else s) else jacF f (n % a) a (if a % 4 = 3 ∧ n % 4 = 3 then -s else s)
def jac (a n : Nat) (s : Int) : Int := jacF (a + 1) a n s
theorem jacF_fuel : ∀ (f a n : Nat) (s : Int), a < f → jacF f a n s = jac a n s := by
  intro f
  induction f using Nat.strongRecOn with
  | _ f ih =>
    intro a n s h
    cases f with
    | zero => omega
    | succ f =>
      unfold jac
      by_cases h0 : a = 0
      · simp [jacF, h0]
      · by_cases h2 : a % 2 = 0
        · simp only [jacF, h0, h2, if_false, if_true]
          rw [ih f (by omega) _ _ _ (by omega)]
          by_cases hf : a = f
          · subst hf; rw [ih a (by omega) _ _ _ (by omega)]
          · exact (ih a (by omega) _ _ _ (by omega)).symm
        · simp only [jacF, h0, h2, if_false]
          have := Nat.mod_lt n (show 0 < a by omega)
          rw [ih f (by omega) _ _ _ (by omega)]
          by_cases hf : a = f
          · subst hf; rw [ih a (by omega) _ _ _ (by omega)]
          · exact (ih a (by omega) _ _ _ (by omega)).symm
theorem jac_zero (n : Nat) (s : Int) : jac 0 n s = if n = 1 then s else 0 := rfl
theorem jac_even {a : Nat} (n : Nat) (s : Int) (h0 : a ≠ 0) (h : a % 2 = 0) : jac a n s = jac (a / 2) n (if n % 8 = 3 ∨ n % 8 = 5 then -s else s) := by
  rw [← jacF_fuel a (a / 2) n _ (by omega)]
  unfold jac
  simp only [jacF, h0, h, if_false, if_true]
theorem jac_odd {a : Nat} (n : Nat) (s : Int) (h : a % 2 = 1) : jac a n s = jac (n % a) a (if a % 4 = 3 ∧ n % 4 = 3 then -s else s) := by
  rw [← jacF_fuel a (n % a) a _ (Nat.mod_lt _ (by omega))]
  unfold jac
  simp only [jacF, show a ≠ 0 by omega, show ¬ a % 2 = 0 by omega, if_false]
end Num
/-- what Jacobi answers -/
def jcE (s v : ByteArray) : Int := if chk [s] [v] = 0 then (if nv v % 2 = 0 then 1 else 0) else chk [s] [v]
def jcV (s v : ByteArray) : Int := if jcE s v = 0 then jac (nv s % nv v) (nv v) 1 else 0
theorem isN2j : IsN ⟨#[2]⟩ 2 := ⟨by decide +kernel, by decide +kernel⟩
theorem sign_neg {x : Int} (h : x = 1 ∨ x = -1) : -x = 1 ∨ -x = -1 := by omega
end Go.Proofs.YtdhhbjmkdmbffaaGreatDoor

/- The reference of layer 3: check, Mod, Add, Sub, times, Mul, Jacobi. -/
namespace Go.Proofs.YtdhhbjmkdmbffaaGreatDoor
open Go.RowKit Num
set_option maxRecDepth 20000
set_option linter.unusedVariables false
set_option maxHeartbeats 1000000 in
theorem refCheck_any (w : World) (b k : Nat) (ls : List ByteArray) (m : ByteArray) (h : StrAt w b (ls ++ [m])) (hk : k = ls.length + 1) (l1 : k ≤ 1000) :
    Calls Tryz.prog 209 #[.slice (some ⟨b, 0, none⟩) k k] w fun e w' => e = .returned (.int .i64 (chk ls [m])) ∧ w = w' := by
  have hl : (ls ++ [m]).length = k := by simp [hk]
  have hlast : (ls ++ [m])[k - 1]? = some m := by rw [hk]; simp
  have H := Lib.hid h
  have HL := Lib.hid hl
  have HLA := Lib.hid hlast
  have HK := Lib.hid hk
  clear h hl hlast hk
  go_enter Tryz.func209, Tryz.ntmps209
  go_wp2_with fail
  go_loop [3] (fun i => ∃ j : Nat, j ≤ k ∧ i = .int .i64 j ∧ Hid (∀ i (h : i < (ls ++ [m]).length), i < j → validB (ls ++ [m])[i] = true)) (fun i => k - (intOf i).toNat)
  case atStart => exact ⟨0, by omega, rfl, fun i h h2 => by omega⟩
  case round =>
    obtain ⟨j, hj, rfl, hv⟩ := hrel
    by_cases hlt : j < k
    · have hjl : j < (ls ++ [m]).length := by rw [HL.out]; exact hlt
      obtain ⟨x, hx⟩ : ∃ x, (ls ++ [m])[j] = x := ⟨_, rfl⟩
      have hc : w.cell? ⟨b, j, none⟩ = some (.string x) := by rw [← hx]; exact H.out j hjl
      by_cases hvx : validB x = true
      · have hst : Hid (∀ i (h : i < (ls ++ [m]).length), i < j + 1 → validB (ls ++ [m])[i] = true) := fun i h hi => by
          by_cases e : i = j
          · subst e; rw [hx]; exact hvx
          · exact hv.out i h (by omega)
        have HVX := Lib.hid hvx
        clear hvx hv hx hjl
        go_wp2_with fail
        refine (refValid_any x _).mono ?_
        rw [HVX.out]
        rintro e w' ⟨rfl, rfl⟩
        go_wp2_with fail
        exact ⟨⟨j + 1, by omega, by go_num, hst⟩, by simp [intOf]; omega⟩
      · have hvx' : validB x = false := by simpa using hvx
        have hb := chk_bad (ls := ls) (ms := [m]) hjl (by rw [hx]; exact hvx')
        have HVX := Lib.hid hvx'
        have HB := Lib.hid hb
        clear hvx hvx' hv hx hjl hb
        go_wp2_with fail
        refine (refValid_any x _).mono ?_
        rw [HVX.out]
        rintro e w' ⟨rfl, rfl⟩
        go_wp2_with fail
        go_ret
        exact ⟨ret_int HB.out.symm, rfl⟩
    · obtain rfl : j = k := by omega
      have hg := chk_good (ls := ls) (ms := [m]) (fun i hi => hv.out i hi (by rw [HL.out] at hi; exact hi))
      have hp : 0 < j := by have := HK.out; omega
      have hc : w.cell? ⟨b, j - 1, none⟩ = some (.string m) := by
        have := H.out (j - 1) (by rw [HL.out]; omega)
        rw [this]
        have h2 := HLA.out
        rw [List.getElem?_eq_getElem (by rw [HL.out]; omega)] at h2
        injection h2 with h2
        rw [h2]
      by_cases h0 : m.size = 0
      · have e1 : m = ⟨#[]⟩ := by cases m with | mk d => simp [ByteArray.size] at h0; simp [h0]
        subst e1
        have hg2 : chk ls [⟨#[]⟩] = 11 := by rw [hg]; rfl
        have HG := Lib.hid hg2
        clear hg hg2 hv
        go_wp2_with fail
        go_ret
        exact ⟨ret_int HG.out.symm, rfl⟩
      · obtain ⟨n1, n2⟩ := toList_ne h0
        have hg2 : chk ls [m] = 0 := by rw [hg, if_neg]; simp; exact fun e => h0 (by rw [e]; rfl)
        have HG := Lib.hid hg2
        clear hg hg2 hv
        go_wp2_with fail
        go_ret
        exact ⟨ret_int HG.out.symm, rfl⟩
theorem StrAt.lit0 (w : World) (T : TypeId) (l : List ByteArray) : StrAt (w.alloc (.cells (l.map Value.string).toArray T)) w.heap.size l := by
  intro j hj
  rw [World.cell?_alloc_new]
  simp [hj]
theorem refCheck3 (w : World) (x y m : ByteArray) :
    Calls Tryz.prog 209 #[.slice (some ⟨w.heap.size, 0, none⟩) 3 3] (w.alloc (.cells #[.string x, .string y, .string m] 25)) fun e w' => e = .returned (.int .i64 (chk [x, y] [m])) ∧ Below w.heap.size w w' :=
  (refCheck_any (w.alloc (.cells #[.string x, .string y, .string m] 25)) w.heap.size 3 [x, y] m (StrAt.lit0 w _ [x, y, m]) rfl (by omega)).mono
    fun _ _ h => ⟨h.1, by rw [← h.2]; exact (Below.refl _ w).alloc (Nat.le_refl _) _⟩
theorem refCheck2 (w : World) (x m : ByteArray) :
    Calls Tryz.prog 209 #[.slice (some ⟨w.heap.size, 0, none⟩) 2 2] (w.alloc (.cells #[.string x, .string m] 25)) fun e w' => e = .returned (.int .i64 (chk [x] [m])) ∧ Below w.heap.size w w' :=
  (refCheck_any (w.alloc (.cells #[.string x, .string m] 25)) w.heap.size 2 [x] m (StrAt.lit0 w _ [x, m]) rfl (by omega)).mono
    fun _ _ h => ⟨h.1, by rw [← h.2]; exact (Below.refl _ w).alloc (Nat.le_refl _) _⟩
theorem refMod_any (s v : ByteArray) (a m : Nat) (w : World) (hs : IsN s a) (hv : IsN v m) (h0 : 0 < m) :
    Calls Tryz.prog 214 #[.string s, .string v] w fun e w' => e = .returned (.string (enc (a % m))) ∧ Below w.heap.size w w' := by
  have HS := Lib.hid hs; clear hs
  have HV := Lib.hid hv; clear hv
  go_enter Tryz.func214, Tryz.ntmps214
  go_wp2_with fail
  refine (refDivMod_any _ _ _ _ _ HS.out HV.out h0).mono ?_; rintro e w2 ⟨rfl, hb2⟩
  go_wp2_with fail
  go_ret
  exact ⟨rfl, hb2⟩
theorem blen_pow {n k : Nat} (h : n < 256 ^ k) (hk : k ≤ 128) : blen n ≤ 128 := Nat.le_trans ((blen_le_iff n k).2 h) hk
theorem rem_lt {v : ByteArray} {m : Nat} (hv : IsN v m) (h0 : 0 < m) (h64 : v.size ≤ 64) (a : Nat) : a % m < m ∧ m < 256 ^ 64 := by
  refine ⟨Nat.mod_lt _ h0, ?_⟩
  rw [← blen_le_iff, ← hv.size]
  exact h64
set_option maxHeartbeats 1000000 in
theorem refTimesM_any (s t v : ByteArray) (a b m : Nat) (w : World) (hs : IsN s a) (ht : IsN t b) (hv : IsN v m) (h0 : 0 < m) (h64 : v.size ≤ 64) :
    Calls Tryz.prog 216 #[.string s, .string t, .string v] w fun e w' => e = .returned (.string (enc (a * b % m))) ∧ Below w.heap.size w w' := by
  obtain ⟨r1, r3⟩ := rem_lt hv h0 h64 a
  obtain ⟨r2, _⟩ := rem_lt hv h0 h64 b
  have hmul : blen ((a % m) * (b % m)) ≤ 128 := by
    rw [blen_le_iff]
    calc (a % m) * (b % m) < 256 ^ 64 * 256 ^ 64 := Nat.mul_lt_mul'' (by omega) (by omega)
      _ = 256 ^ 128 := by rw [← Nat.pow_add]
  have hfin : (a % m) * (b % m) % m = a * b % m := (Nat.mul_mod a b m).symm
  have hN1 := IsN.mk' (mod_le (a := a) hv h0)
  have hN2 := IsN.mk' (mod_le (a := b) hv h0)
  have HF := Lib.hid (And.intro (fitS_ok hmul) (fitE_ok hmul))
  have HP := Lib.hid (IsN.mk' hmul)
  have HFIN := Lib.hid hfin
  have HS := Lib.hid hs; clear hs
  have HT := Lib.hid ht; clear ht
  have HV := Lib.hid hv
  have H1 := Lib.hid hN1
  have H2 := Lib.hid hN2
  by_cases h8 : v.size ≤ 8
  · by_cases h31 : m < 2147483648
    · have d1 : decide ((m : Int) < 2147483648) = true := decide_eq_true (by omega)
      have z1 : (enc (a % m)).size ≤ 8 := by rw [size_enc]; exact Nat.le_trans (blen_mono (Nat.le_of_lt r1)) (by rw [← hv.size]; exact h8)
      have z2 : (enc (b % m)).size ≤ 8 := by rw [size_enc]; exact Nat.le_trans (blen_mono (Nat.le_of_lt r2)) (by rw [← hv.size]; exact h8)
      have hml : (a % m) * (b % m) < 4611686018427387904 := by
        have : (a % m) * (b % m) < 2147483648 * 2147483648 := Nat.mul_lt_mul'' (by omega) (by omega)
        omega
      have Z := Lib.hid (And.intro z1 z2)
      obtain ⟨x, hx⟩ : ∃ x, a % m = x := ⟨_, rfl⟩
      obtain ⟨y, hy⟩ : ∃ y, b % m = y := ⟨_, rfl⟩
      rw [hx, hy] at HFIN hml
      rw [hx] at H1 Z r1
      rw [hy] at H2 Z r2
      have hq1 : (x : Int) * (y : Int) = ((x * y : Nat) : Int) := (Int.natCast_mul x y).symm
      have hq2 : IntKind.u64.wrap ((x : Int) * (y : Int)) = ((x * y : Nat) : Int) := by rw [hq1]; exact wraps_u64 _ (by omega) (by omega)
      obtain ⟨p, hp⟩ : ∃ p, x * y = p := ⟨_, rfl⟩
      rw [hp] at hq1 hq2 HFIN hml
      have hpm : p % m < m := Nat.mod_lt _ h0
      have nz : ((m : Int) == 0) = false := by rw [beq_eq_false_iff_ne]; omega
      have HX := Lib.hid hx
      have HY := Lib.hid hy
      have hm32 := h31
      have HQ := Lib.hid hfin
      have r4 : ((p : Int)).tmod (m : Int) = ((p % m : Nat) : Int) := by rw [Int.tmod_eq_emod_of_nonneg (by omega)]; simp
      obtain ⟨q, hq⟩ : ∃ q, p % m = q := ⟨_, rfl⟩
      rw [hq] at r4 hpm HFIN
      clear hx hy hp hN1 hN2 hfin r3 hmul hq HF HP h64 hv
      go_enter Tryz.func216, Tryz.ntmps216
      go_wp2_with fail
      refine (refSmall_yes _ _ _ HV.out h8).mono ?_; rintro e w1 ⟨rfl, rfl⟩
      go_wp2_with fail
      refine (refMod_any _ _ _ _ _ HS.out HV.out h0).mono ?_; rw [HX.out]; rintro e w2 ⟨rfl, hb2⟩
      go_wp2_with fail
      refine (refSmall_yes _ _ _ H1.out Z.out.1).mono ?_; rintro e w1 ⟨rfl, rfl⟩
      go_wp2_with fail
      refine (refMod_any _ _ _ _ _ HT.out HV.out h0).mono ?_; rw [HY.out]; rintro e w3 ⟨rfl, hb3⟩
      replace hb2 := bbl hb2 hb3
      clear hb3
      go_wp2_with fail
      refine (refSmall_yes _ _ _ H2.out Z.out.2).mono ?_; rintro e w1 ⟨rfl, rfl⟩
      go_wp2_with fail
      refine (refOf_any q _ (by omega)).mono ?_; rw [HFIN.out]; rintro e w4 ⟨rfl, hb4⟩
      replace hb2 := bbl hb2 hb4
      go_wp2_with fail
      go_ret
      exact ⟨rfl, hb2⟩
    · have d1 : decide ((m : Int) < 2147483648) = false := decide_eq_false (by omega)
      clear hN1 hN2 hfin r1 r2 r3 hmul h31 h64 hv
      go_enter Tryz.func216, Tryz.ntmps216
      go_wp2_with fail
      refine (refSmall_yes _ _ _ HV.out h8).mono ?_; rintro e w1 ⟨rfl, rfl⟩
      go_wp2_with fail
      refine (refMod_any _ _ _ _ _ HS.out HV.out h0).mono ?_; rintro e w2 ⟨rfl, hb2⟩
      go_wp2_with fail
      refine (refMod_any _ _ _ _ _ HT.out HV.out h0).mono ?_; rintro e w3 ⟨rfl, hb3⟩
      replace hb2 := bbl hb2 hb3
      clear hb3
      go_wp2_with fail
      refine (refMul_any _ _ _ _ _ H1.out H2.out).mono ?_; rw [HF.out.1, HF.out.2]; rintro e w3 ⟨rfl, hb3⟩
      replace hb2 := bbl hb2 hb3
      clear hb3
      go_wp2_with fail
      refine (refMod_any _ _ _ _ _ HP.out HV.out h0).mono ?_; rw [HFIN.out]; rintro e w3 ⟨rfl, hb3⟩
      replace hb2 := bbl hb2 hb3
      clear hb3
      go_wp2_with fail
      go_ret
      exact ⟨rfl, hb2⟩
  · clear hN1 hN2 hfin r1 r2 r3 hmul h64 hv
    go_enter Tryz.func216, Tryz.ntmps216
    go_wp2_with fail
    refine (refSmall_no _ _ _ HV.out (by omega)).mono ?_; rintro e w1 ⟨rfl, rfl⟩
    go_wp2_with fail
    refine (refMod_any _ _ _ _ _ HS.out HV.out h0).mono ?_; rintro e w2 ⟨rfl, hb2⟩
    go_wp2_with fail
    refine (refMod_any _ _ _ _ _ HT.out HV.out h0).mono ?_; rintro e w3 ⟨rfl, hb3⟩
    replace hb2 := bbl hb2 hb3
    clear hb3
    go_wp2_with fail
    refine (refMul_any _ _ _ _ _ H1.out H2.out).mono ?_; rw [HF.out.1, HF.out.2]; rintro e w3 ⟨rfl, hb3⟩
    replace hb2 := bbl hb2 hb3
    clear hb3
    go_wp2_with fail
    refine (refMod_any _ _ _ _ _ HP.out HV.out h0).mono ?_; rw [HFIN.out]; rintro e w3 ⟨rfl, hb3⟩
    replace hb2 := bbl hb2 hb3
    clear hb3
    go_wp2_with fail
    go_ret
    exact ⟨rfl, hb2⟩
theorem tb_zero (n : Nat) : tb n 0 = decide (n % 2 = 1) := by unfold tb; rw [Nat.pow_zero, Nat.div_one]
theorem tb_one (n : Nat) (h : n % 2 = 1) : tb n 1 = decide (n % 4 = 3) := by
  unfold tb
  rw [Nat.pow_one, Bool.eq_iff_iff, decide_eq_true_eq, decide_eq_true_eq]
  omega
end Go.Proofs.YtdhhbjmkdmbffaaGreatDoor
