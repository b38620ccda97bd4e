import Derived.Test.YtdlbnioidfhhcaaGreatExtd
import Derived.Test.YtdlbnioidfhhcaaGreatTimes
import Derived.Test.YtdlbnioidfhhcaaGreatExp
import Derived.Test.YtdlbnioidfhhcaaGreatNatD
/- modular: Add, Sub, Mul, Exp at any strings; Inverse; and plain facts on inverses. -/
namespace Go.Proofs.YtdlbnioidfhhcaaGreat
open Go.RowKit Num
set_option maxRecDepth 20000
set_option linter.unusedVariables false
namespace Num
/-- the inverse of a modulo m -/
def invm (a m : Nat) : Nat := ((List.range m).find? fun x => a * x % m == 1 % m).getD 0
theorem inv_same {a m x y : Nat} (hx : x < m) (hy : y < m) (h1 : a * x % m = 1 % m) (h2 : a * y % m = 1 % m) : x = y := by
  have e : x * (a * y) = y * (a * x) := by rw [← Nat.mul_assoc, Nat.mul_comm x a, Nat.mul_comm (a * x) y]
  have e1 : x * (a * y) % m = x := by rw [Nat.mul_mod, h2, ← Nat.mul_mod, Nat.mul_one, Nat.mod_eq_of_lt hx]
  have e2 : y * (a * x) % m = y := by rw [Nat.mul_mod, h1, ← Nat.mul_mod, Nat.mul_one, Nat.mod_eq_of_lt hy]
  exact e1.symm.trans ((congrArg (· % m) e).trans e2)
theorem invm_uniq {a m x : Nat} (hx : x < m) (h : a * x % m = 1 % m) : invm a m = x := by
  unfold invm
  cases hf : (List.range m).find? (fun x => a * x % m == 1 % m) with
  | none =>
    rw [List.find?_eq_none] at hf
    exact absurd (by simpa using h) (hf x (by simpa using hx))
  | some y =>
    have h1 := List.find?_some hf
    have h2 := List.mem_range.1 (List.mem_of_find?_eq_some hf)
    simp only [Option.getD_some]
    exact inv_same h2 hx (by simpa using h1) h
theorem gcd_mod_left (a m : Nat) : Nat.gcd (a % m) m = Nat.gcd a m := by rw [Nat.gcd_comm a m, Nat.gcd_rec m a]
/-- the first coefficient of 1 is the inverse -/
theorem inv_of_bez {a m : Nat} {x y : Int} (hm : 0 < m) (h : ((a % m : Nat) : Int) * x + m * y = 1) (h0 : 0 ≤ x) (h1 : x < m) : x.natAbs = invm a m ∧ x.natAbs < m := by
  refine ⟨?_, by omega⟩
  refine (invm_uniq (by omega) ?_).symm
  obtain ⟨n, rfl⟩ : ∃ n : Nat, x = n := ⟨x.toNat, by omega⟩
  simp only [Int.natAbs_natCast]
  rw [Nat.mul_mod, Nat.mod_eq_of_lt (show n < m by omega)]
  have e : (((a % m) * n % m : Nat) : Int) = ((1 % m : Nat) : Int) := by
    push_cast
    have e2 : (a : Int) % m * n = 1 + m * (-y) := by
      push_cast at h
      rw [Int.mul_neg]; omega
    rw [e2, Int.add_mul_emod_self_left]
  exact_mod_cast e
theorem invm_spec {a m : Nat} (hm : 0 < m) {x y : Int} (h : ((a % m : Nat) : Int) * x + m * y = 1) : invm a m < m ∧ a * invm a m % m = 1 % m := by
  have hx := Int.emod_nonneg x (show (m : Int) ≠ 0 by omega)
  have hx2 := Int.emod_lt_of_pos x (show (0 : Int) < m by omega)
  obtain ⟨n, hn⟩ : ∃ n : Nat, x % m = n := ⟨(x % m).toNat, by omega⟩
  have hxe : x = n + m * (x / m) := by rw [← hn]; have := Int.emod_add_mul_ediv x m; omega
  have e2 : (a : Int) % m * n = 1 + m * (-y - (a % m : Int) * (x / m)) := by
    push_cast at h
    have h3 : (a : Int) % m * n + m * ((a : Int) % m * (x / m)) = (a : Int) % m * x := by
      conv => rhs; rw [hxe]
      rw [Int.mul_add, ← Int.mul_assoc, ← Int.mul_assoc, Int.mul_comm (m : Int)]
    rw [Int.mul_sub, Int.mul_neg]
    omega
  have e : (((a % m) * n % m : Nat) : Int) = ((1 % m : Nat) : Int) := by
    push_cast
    rw [e2, Int.add_mul_emod_self_left]
  have hlt : n < m := by omega
  have e' : a * n % m = 1 % m := by rw [Nat.mul_mod, Nat.mod_eq_of_lt hlt]; exact_mod_cast e
  rw [invm_uniq hlt e']
  exact ⟨hlt, e'⟩
end Num
theorem bbl {w w1 w2 : World} (h : Below w.heap.size w w1) (h2 : Below w1.heap.size w1 w2) : Below w.heap.size w w2 := h.trans (h2.mono h.size)
/-- a result, or the empty string -/
def mo (c : Int) (n : Nat) : ByteArray := if c = 0 then enc n else ⟨#[]⟩
theorem mo_zero (n : Nat) : mo 0 n = enc n := rfl
theorem mo_bad {c : Int} (h : c ≠ 0) (n : Nat) : mo c n = ⟨#[]⟩ := if_neg h
theorem chk_cases (ls ms : List ByteArray) : chk ls ms = 0 ∨ chk ls ms = 3 ∨ chk ls ms = 11 := by
  unfold chk
  split
  · split
    · exact .inr (.inr rfl)
    · exact .inl rfl
  · exact .inr (.inl rfl)
theorem chk_inv {ls ms : List ByteArray} (h : chk ls ms = 0) : (∀ x ∈ ls ++ ms, IsN x (nv x)) ∧ ∀ x ∈ ms, 0 < nv x := by
  unfold chk at h
  split at h
  · rename_i h1
    split at h
    · cases h
    · rename_i h2
      rw [List.all_eq_true] at h1
      refine ⟨fun x hx => isN_of_valid (h1 x hx), fun x hx => ?_⟩
      have hv := isN_of_valid (h1 x (List.mem_append_right _ hx))
      rcases Nat.eq_zero_or_pos (nv x) with h0 | h0
      · exfalso
        apply h2
        rw [List.any_eq_true]
        refine ⟨x, hx, ?_⟩
        have := hv.size
        rw [h0, blen_zero] at this
        exact decide_eq_true this
      · exact h0
  · cases h
theorem chk21_inv {s t v : ByteArray} (h : chk [s, t] [v] = 0) : IsN s (nv s) ∧ IsN t (nv t) ∧ IsN v (nv v) ∧ 0 < nv v := by
  obtain ⟨h1, h2⟩ := chk_inv h
  exact ⟨h1 s (by simp), h1 t (by simp), h1 v (by simp), h2 v (by simp)⟩
theorem chk11_inv {s v : ByteArray} (h : chk [s] [v] = 0) : IsN s (nv s) ∧ IsN v (nv v) ∧ 0 < nv v := by
  obtain ⟨h1, h2⟩ := chk_inv h
  exact ⟨h1 s (by simp), h1 v (by simp), h2 v (by simp)⟩
theorem ModMul_any (s t v : ByteArray) (w : World) :
    Calls Tryz.prog 48 #[.string s, .string t, .string v] w fun e w' => e = .returned (.tuple #[.string (mo (chk [s, t] [v]) (nv s * nv t % nv v)), .int .i64 (chk [s, t] [v])]) ∧ Below w.heap.size w w' := by
  have hc := chk_cases [s, t] [v]
  by_cases h0 : chk [s, t] [v] = 0
  · obtain ⟨hs, ht, hv, hp⟩ := chk21_inv h0
    rw [h0, mo_zero]
    exact ModMul_ok s t v _ _ _ w hs ht hv hp
  · rw [mo_bad h0]
    have hk : chk [s, t] [v] = 3 ∨ chk [s, t] [v] = 11 := hc.resolve_left h0
    clear hc h0
    rcases hk with hk | hk
    all_goals
      rw [hk]
      have HK := Lib.hid hk
      clear hk
      go_enter Tryz.func48, Tryz.ntmps48
      go_wp2_with fail
      refine (check21 w s t v).mono ?_; rintro e w1 ⟨rfl, hb1⟩
      rw [HK.out]
      go_wp2_with fail
      go_ret2
      exact ⟨rfl, hb1⟩
namespace Num
theorem sub_zero_mod {a b m : Nat} (h0 : 0 < m) (h : b % m = 0) : a % m = (a + (m - b % m)) % m := by rw [h, Nat.sub_zero, Nat.add_mod_right]
end Num
theorem ModSub_ok (s t v : ByteArray) (a b m : Nat) (w : World) (hs : IsN s a) (ht : IsN t b) (hv : IsN v m) (h0 : 0 < m) :
    Calls Tryz.prog 69 #[.string s, .string t, .string v] w fun e w' => e = .returned (.tuple #[.string (enc ((a + (m - b % m)) % m)), .int .i64 0]) ∧ Below w.heap.size w w' := by
  have hk := chk21 hs ht hv h0
  have HS := Lib.hid hs; clear hs
  have HT := Lib.hid ht; clear ht
  have HV := Lib.hid hv; clear hv
  have hbm := Nat.mod_lt b h0
  by_cases hz : b % m = 0
  · rw [← sub_zero_mod h0 hz]
    have HZ := Lib.hid hz
    clear hz hbm
    go_enter Tryz.func69, Tryz.ntmps69
    go_wp2_with fail
    refine (check21 w s t v).mono ?_; rintro e w1 ⟨rfl, hb1⟩
    rw [hk]
    clear hk
    go_wp2_with fail
    refine (reduced_any _ _ _ _ _ HS.out HV.out h0).mono ?_; rintro e w2 ⟨rfl, hb2⟩
    go_wp2_with fail
    refine (reduced_any _ _ _ _ _ HT.out HV.out h0).mono ?_; rintro e w3 ⟨rfl, hb3⟩
    rw [HZ.out, enc_zero]
    go_wp2_with fail
    go_ret2
    exact ⟨rfl, (hb1.trans (hb2.mono hb1.size)).trans (hb3.mono (Nat.le_trans hb1.size hb2.size))⟩
  · have hp : 0 < b % m := by omega
    have ne := (notEmpty_enc hp).1
    have ne' := toList_enc_nil hp
    have HB := Lib.hid hbm
    have z1 : m - b % m < m := by omega
    have z2 : blen (m - b % m) ≤ 128 := Nat.le_trans (blen_mono (Nat.le_of_lt z1)) HV.out.le
    have HZ := Lib.hid (And.intro z1 z2)
    clear hz hbm hp z1 z2
    go_enter Tryz.func69, Tryz.ntmps69
    go_wp2_with fail
    refine (check21 w s t v).mono ?_; rintro e w1 ⟨rfl, hb1⟩
    rw [hk]
    clear hk
    go_wp2_with fail
    refine (reduced_any _ _ _ _ _ HS.out HV.out h0).mono ?_; rintro e w2 ⟨rfl, hb2⟩
    go_wp2_with fail
    refine (reduced_any _ _ _ _ _ HT.out HV.out h0).mono ?_; rintro e w3 ⟨rfl, hb3⟩
    go_wp2_with fail
    refine (Sub_any _ _ _ _ _ HV.out (IsN.mk' (mod_le HV.out h0)) (Nat.le_of_lt HB.out)).mono ?_; rintro e w4 ⟨rfl, hb4⟩
    go_wp2_with fail
    refine (plus_any _ _ _ _ _ _ _ (IsN.mk' (mod_le HV.out h0)) (IsN.mk' HZ.out.2) HV.out (Nat.mod_lt _ h0) HZ.out.1).mono ?_; rintro e w5 ⟨rfl, hb5⟩
    go_wp2_with fail
    go_ret2
    have q1 := hb1.trans (hb2.mono hb1.size)
    have q2 := q1.trans (hb3.mono q1.size)
    have q3 := q2.trans (hb4.mono q2.size)
    exact ⟨rfl, q3.trans (hb5.mono q3.size)⟩
theorem ModSub_any (s t v : ByteArray) (w : World) :
    Calls Tryz.prog 69 #[.string s, .string t, .string v] w fun e w' => e = .returned (.tuple #[.string (mo (chk [s, t] [v]) ((nv s + (nv v - nv t % nv v)) % nv v)), .int .i64 (chk [s, t] [v])]) ∧ Below w.heap.size w w' := by
  have hc := chk_cases [s, t] [v]
  by_cases h0 : chk [s, t] [v] = 0
  · obtain ⟨hs, ht, hv, hp⟩ := chk21_inv h0
    rw [h0, mo_zero]
    exact ModSub_ok s t v _ _ _ w hs ht hv hp
  · rw [mo_bad h0]
    have hk : chk [s, t] [v] = 3 ∨ chk [s, t] [v] = 11 := hc.resolve_left h0
    clear hc h0
    rcases hk with hk | hk
    all_goals
      rw [hk]
      have HK := Lib.hid hk
      clear hk
      go_enter Tryz.func69, Tryz.ntmps69
      go_wp2_with fail
      refine (check21 w s t v).mono ?_; rintro e w1 ⟨rfl, hb1⟩
      rw [HK.out]
      go_wp2_with fail
      go_ret2
      exact ⟨rfl, hb1⟩
set_option maxHeartbeats 1000000 in
theorem ModExp_any (s t v : ByteArray) (w : World) :
    Calls Tryz.prog 111 #[.string s, .string t, .string v] w fun e w' => e = .returned (.tuple #[.string (mo (chk [s, t] [v]) (nv s ^ nv t % nv v)), .int .i64 (chk [s, t] [v])]) ∧ Below w.heap.size w w' := by
  have hc := chk_cases [s, t] [v]
  by_cases h0 : chk [s, t] [v] = 0
  · obtain ⟨hs, ht, hv, hp⟩ := chk21_inv h0
    rw [h0, mo_zero]
    exact Exp_any s t v _ _ _ w hs ht hv hp
  · rw [mo_bad h0]
    have hk : chk [s, t] [v] = 3 ∨ chk [s, t] [v] = 11 := hc.resolve_left h0
    clear hc h0
    obtain ⟨w2, hw2⟩ : ∃ w2, (w.alloc (.cells #[.string s] 22)).alloc (.cells #[.string v] 22) = w2 := ⟨_, rfl⟩
    have hsz : w2.heap.size = w.heap.size + 1 + 1 := by rw [← hw2]; simp
    have hb2 : Below w.heap.size w w2 := by rw [← hw2]; exact below_two w _ _
    have hba : Bx w2 w.heap.size s := by rw [← hw2]; exact (Bx.new w s).alloc _
    have hbm : Bx w2 (w.heap.size + 1) v := by rw [← hw2]; have := Bx.new (w.alloc (.cells #[.string s] 22)) v; simpa using this
    have ca := hba.cell
    have cm := hbm.cell
    have hck := check21 w2 s t v
    rw [hsz] at hck
    clear hba hbm
    rcases hk with hk | hk
    all_goals
      rw [hk]
      have HK := Lib.hid hk
      clear hk
      have HCK := Lib.hid hck
      clear hck
      go_enter Tryz.func111, Tryz.ntmps111
      go_wp2_with fail
      clear hw2
      refine HCK.out.mono ?_
      rintro e w1 ⟨rfl, hb1⟩
      rw [HK.out]
      go_wp2_with fail
      go_ret2
      exact ⟨rfl, hb2.trans (hb1.mono (by omega))⟩
theorem enc_same' (a : Nat) : ((enc a).toList == (enc a).toList) = true := by simp
theorem bytes_toList_inj {s t : ByteArray} (h : s.toList = t.toList) : s = t := by
  rw [ByteArray.toList_eq, ByteArray.toList_eq] at h
  apply ByteArray.ext
  exact Array.toList_inj.1 h
theorem enc_ne {a b : Nat} (h : a ≠ b) : ((enc a).toList == (enc b).toList) = false ∧ ((enc a).toList = (enc b).toList → False) := by
  have h1 : (enc a).toList ≠ (enc b).toList := fun e => h (enc_inj (bytes_toList_inj e))
  exact ⟨by rw [beq_eq_false_iff_ne]; exact h1, h1⟩
theorem enc_I : enc 1 = ⟨#[1]⟩ := by decide +kernel
theorem one_list : (enc 1).toList = [1] := by decide +kernel
/-- what Inverse answers -/
def ivE (s v : ByteArray) : Int := if chk [s] [v] = 0 then (if Nat.gcd (nv s) (nv v) = 1 then 0 else 9) else chk [s] [v]
def ivS (s v : ByteArray) : ByteArray := mo (ivE s v) (invm (nv s) (nv v))
set_option maxHeartbeats 1000000 in
theorem Inverse_yes (s v : ByteArray) (a m : Nat) (w : World) (hs : IsN s a) (hv : IsN v m) (h0 : 0 < m) (hg : Nat.gcd a m = 1) :
    Calls Tryz.prog 47 #[.string s, .string v] w fun e w' => e = .returned (.tuple #[.string (enc (invm a m)), .int .i64 0]) ∧ Below w.heap.size w w' := by
  have hk := chk11 hs hv h0
  have HS := Lib.hid hs; clear hs
  have HV := Lib.hid hv; clear hv
  have HG := Lib.hid hg; clear hg
  go_enter Tryz.func47, Tryz.ntmps47
  go_wp2_with fail
  refine (check11 w s v).mono ?_; rintro e w1 ⟨rfl, hb1⟩
  rw [hk]
  clear hk
  go_wp2_with fail
  refine (reduced_any _ _ _ _ _ HS.out HV.out h0).mono ?_; rintro e w2 ⟨rfl, hb2⟩
  go_wp2_with fail
  refine (extended_any _ _ _ _ _ (IsN.mk' (mod_le HV.out h0)) HV.out h0).mono ?_
  rintro e w3 ⟨x, y, rfl, hxy, hx0, hx1, hyy, hb3⟩
  rw [gcd_mod_left, HG.out, Nat.div_one] at hx1
  rw [gcd_mod_left, HG.out] at hxy ⊢
  obtain ⟨hxa, hxm⟩ := inv_of_bez h0 hxy hx0 hx1
  have hz3 := (ZBox.new w3 x).alloc (.cells #[.bool (zb y), .string (zs y)] 50)
  have q1 := hb1.trans (hb2.mono hb1.size)
  have q2 := q1.trans (hb3.mono q1.size)
  have c0 := hz3.c0
  have c1 := hz3.c1
  have hzs : zs x = enc (invm a m) := by unfold zs; rw [hxa]
  have hzn : IsN (zs x) (invm a m) := by rw [hzs]; exact IsN.mk' (Nat.le_trans (blen_mono (by omega)) HV.out.le)
  have hmod : invm a m % m = invm a m := Nat.mod_eq_of_lt (by omega)
  have HZN := Lib.hid (And.intro hzn hmod)
  have EO := Lib.hid enc_I
  have e1 := enc_same' 1
  rw [enc_I] at e1 ⊢
  clear hxy hx0 hx1 hyy hxa hxm hzs hzn hmod
  go_wp2_with fail
  refine (reduced_any _ _ _ _ _ HZN.out.1 HV.out h0).mono ?_; rintro e w5 ⟨rfl, hb5⟩
  rw [HZN.out.2]
  go_wp2_with fail
  go_ret2
  have q3 := (q2.alloc q2.size (.cells #[.bool (zb x), .string (zs x)] 50)).alloc (by have := q2.size; simp; omega) (.cells #[.bool (zb y), .string (zs y)] 50)
  exact ⟨rfl, q3.trans (hb5.mono q3.size)⟩
set_option maxHeartbeats 1000000 in
theorem Inverse_no (s v : ByteArray) (a m : Nat) (w : World) (hs : IsN s a) (hv : IsN v m) (h0 : 0 < m) (hg : Nat.gcd a m ≠ 1) :
    Calls Tryz.prog 47 #[.string s, .string v] w fun e w' => e = .returned (.tuple #[.string ⟨#[]⟩, .int .i64 9]) ∧ Below w.heap.size w w' := by
  have hk := chk11 hs hv h0
  have HS := Lib.hid hs; clear hs
  have HV := Lib.hid hv; clear hv
  obtain ⟨e1, e2⟩ := enc_ne hg
  rw [one_list] at e1 e2
  clear hg
  go_enter Tryz.func47, Tryz.ntmps47
  go_wp2_with fail
  refine (check11 w s v).mono ?_; rintro e w1 ⟨rfl, hb1⟩
  rw [hk]
  clear hk
  go_wp2_with fail
  refine (reduced_any _ _ _ _ _ HS.out HV.out h0).mono ?_; rintro e w2 ⟨rfl, hb2⟩
  go_wp2_with fail
  refine (extended_any _ _ _ _ _ (IsN.mk' (mod_le HV.out h0)) HV.out h0).mono ?_
  rintro e w3 ⟨x, y, rfl, hxy, hx0, hx1, hyy, hb3⟩
  rw [gcd_mod_left]
  clear hxy hx0 hx1 hyy
  have q1 := hb1.trans (hb2.mono hb1.size)
  have q2 := q1.trans (hb3.mono q1.size)
  have q3 := (q2.alloc q2.size (.cells #[.bool (zb x), .string (zs x)] 50)).alloc (by have := q2.size; simp; omega) (.cells #[.bool (zb y), .string (zs y)] 50)
  go_wp2_with fail
  go_ret2
  exact ⟨rfl, q3⟩
theorem Inverse_any (s v : ByteArray) (w : World) :
    Calls Tryz.prog 47 #[.string s, .string v] w fun e w' => e = .returned (.tuple #[.string (ivS s v), .int .i64 (ivE s v)]) ∧ Below w.heap.size w w' := by
  have hc := chk_cases [s] [v]
  by_cases h0 : chk [s] [v] = 0
  · obtain ⟨hs, hv, hp⟩ := chk11_inv h0
    by_cases hg : Nat.gcd (nv s) (nv v) = 1
    · have e1 : ivE s v = 0 := by unfold ivE; rw [if_pos h0, if_pos hg]
      rw [ivS, e1, mo_zero]
      exact Inverse_yes s v _ _ w hs hv hp hg
    · have e1 : ivE s v = 9 := by unfold ivE; rw [if_pos h0, if_neg hg]
      rw [ivS, e1, mo_bad (by decide)]
      exact Inverse_no s v _ _ w hs hv hp hg
  · have e1 : ivE s v = chk [s] [v] := by unfold ivE; rw [if_neg h0]
    rw [ivS, e1, mo_bad h0]
    have hk : chk [s] [v] = 3 ∨ chk [s] [v] = 11 := hc.resolve_left h0
    clear hc h0 e1
    rcases hk with hk | hk
    all_goals
      rw [hk]
      have HK := Lib.hid hk
      clear hk
      go_enter Tryz.func47, Tryz.ntmps47
      go_wp2_with fail
      refine (check11 w s v).mono ?_; rintro e w1 ⟨rfl, hb1⟩
      rw [HK.out]
      go_wp2_with fail
      go_ret2
      exact ⟨rfl, hb1⟩
end Go.Proofs.YtdlbnioidfhhcaaGreat

/- modular.Join. -/
namespace Go.Proofs.YtdlbnioidfhhcaaGreat
open Go.RowKit Num
set_option maxRecDepth 20000
set_option linter.unusedVariables false
namespace Num
theorem bezout (a b : Nat) : ∃ x y : Int, (a : Int) * x + b * y = (Nat.gcd a b : Nat) := by
  induction a, b using Nat.gcd.induction with
  | H0 n => exact ⟨0, 1, by simp⟩
  | H1 m n hm ih =>
    obtain ⟨x, y, h⟩ := ih
    refine ⟨y - ((n / m : Nat) : Int) * x, x, ?_⟩
    rw [Nat.gcd_rec, ← h]
    have e : ((n % m : Nat) : Int) = n - m * ((n / m : Nat) : Int) := by
      have h1 := Nat.div_add_mod n m
      have h2 : ((m * (n / m) + n % m : Nat) : Int) = n := by rw [h1]
      rw [Int.natCast_add, Int.natCast_mul] at h2
      omega
    rw [e, Int.mul_sub, Int.sub_mul, Int.mul_assoc]
    omega
theorem invm_ok {a m : Nat} (hm : 0 < m) (h : Nat.gcd a m = 1) : invm a m < m ∧ a * invm a m % m = 1 % m := by
  obtain ⟨x, y, hxy⟩ := bezout (a % m) m
  rw [gcd_mod_left, h] at hxy
  exact invm_spec hm hxy
/-- the difference of the remainders, over the common divisor -/
def joinD (a m b n : Nat) : Nat := (b + (n - a % m % n)) % n / Nat.gcd m n
def joinT (a m b n : Nat) : Nat := joinD a m b n * invm (m / Nat.gcd m n) (n / Nat.gcd m n) % (n / Nat.gcd m n)
def joinX (a m b n : Nat) : Nat := a % m + m * joinT a m b n
theorem gcd_quot {m n : Nat} (hm : 0 < m) : Nat.gcd (m / Nat.gcd m n) (n / Nat.gcd m n) = 1 := by
  have hg : 0 < Nat.gcd m n := Nat.gcd_pos_of_pos_left n hm
  rw [Nat.gcd_div (Nat.gcd_dvd_left m n) (Nat.gcd_dvd_right m n), Nat.div_self hg]
theorem joinX_lt {a m b n : Nat} (hm : 0 < m) (hn : 0 < n) : joinT a m b n < n / Nat.gcd m n ∧ joinX a m b n < m * (n / Nat.gcd m n) := by
  have hg : 0 < Nat.gcd m n := Nat.gcd_pos_of_pos_left n hm
  have hk : 0 < n / Nat.gcd m n := Nat.div_pos (Nat.le_of_dvd hn (Nat.gcd_dvd_right m n)) hg
  have ht : joinT a m b n < n / Nat.gcd m n := Nat.mod_lt _ hk
  refine ⟨ht, ?_⟩
  unfold joinX
  have h1 := Nat.mod_lt a hm
  have h2 : m * (joinT a m b n + 1) ≤ m * (n / Nat.gcd m n) := Nat.mul_le_mul_left m ht
  rw [Nat.mul_add] at h2
  omega
end Num
theorem chk22_inv {s t u v : ByteArray} (h : chk [s, t] [u, v] = 0) : (IsN s (nv s) ∧ IsN t (nv t)) ∧ (IsN u (nv u) ∧ 0 < nv u) ∧ IsN v (nv v) ∧ 0 < nv v := by
  obtain ⟨h1, h2⟩ := chk_inv h
  exact ⟨⟨h1 s (by simp), h1 t (by simp)⟩, ⟨h1 u (by simp), h2 u (by simp)⟩, h1 v (by simp), h2 v (by simp)⟩
theorem chk22 {x y m n : ByteArray} {a b p q : Nat} (hx : IsN x a) (hy : IsN y b) (hm : IsN m p) (hn : IsN n q) (h0 : 0 < p) (h1 : 0 < q) : chk [x, y] [m, n] = 0 :=
  chk_ok (by simp [hx.valid, hy.valid, hm.valid, hn.valid]) (by intro x hx; simp at hx; rcases hx with rfl | rfl; exact hm.pos h0; exact hn.pos h1)
theorem check22 (w : World) (x y m n : ByteArray) :
    Calls Tryz.prog 71 #[.slice (some ⟨w.heap.size, 0, none⟩) 2 2, .slice (some ⟨w.heap.size + 1, 0, none⟩) 2 2] ((w.alloc (.cells #[.string x, .string y] 22)).alloc (.cells #[.string m, .string n] 22))
      fun e w' => e = .returned (.int .i64 (chk [x, y] [m, n])) ∧ Below w.heap.size w w' :=
  (check_any ((w.alloc (.cells #[.string x, .string y] 22)).alloc (.cells #[.string m, .string n] 22)) w.heap.size (w.heap.size + 1) [x, y] [m, n] (StrAt.lit1 w _ [x, y] _) (StrAt.lit2 w _ [m, n] _) (by simp) (by simp) (by simp) (by simp)).mono
    fun _ _ h => ⟨h.1, (below_two w _ _).trans (h.2.mono (by simp; omega))⟩
theorem bbelow {B : Nat} {w w1 w2 : World} (h : Below B w w1) (h2 : Below w1.heap.size w1 w2) (hB : B ≤ w.heap.size) : Below B w w2 := h.trans (h2.mono (by have := h.size; omega))
end Go.Proofs.YtdlbnioidfhhcaaGreat
