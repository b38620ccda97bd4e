/- Contracts: prime.Strong, and dominoref04 Mod, Strong. -/
import Derived.Test.YtjminjliomffaaaDoorPrmC
import Derived.Test.YtjminjliomffaaaDoorExp
import Derived.BigQuiet
import Derived.Deep.QuietTactic
namespace Go.Proofs.YtjminjliomffaaaDoor
open Go.RowKit Num
set_option maxRecDepth 20000
set_option linter.unusedVariables false

namespace Num
/-- is n a strong probable prime to the base a? -/
def strongV (n a : Nat) : Bool := if n = 2 then true else if n < 2 ∨ n % 2 = 0 then false else if a % n = 0 then true else strongB n a
theorem strongV_U {n a : Nat} (h : 0 < n) : strongU n (a % n) = strongV n a := by
  unfold strongU strongV
  by_cases h2 : n = 2
  · rw [if_pos (by omega), if_pos h2, h2]; rfl
  · rw [if_neg h2]
    by_cases h3 : n < 2 ∨ n % 2 = 0
    · rw [if_pos (by omega), if_pos h3]; simpa using h2
    · rw [if_neg (by omega), if_neg h3, strong_mod]
end Num
theorem enc_same (a : Nat) : ((enc a).toList == (enc a).toList) = true := by simp
theorem toList_inj' {s t : ByteArray} (h : s.toList = t.toList) : s = t := by
  rw [ByteArray.toList_eq, ByteArray.toList_eq] at h
  apply ByteArray.ext
  exact Array.toList_inj.1 h
theorem enc_diff {a b : Nat} (h : a ≠ b) : ((enc a).toList == (enc b).toList) = false ∧ ((enc a).toList = (enc b).toList ↔ False) := by
  have h1 : (enc a).toList ≠ (enc b).toList := fun e => h (enc_inj (toList_inj' e))
  exact ⟨by rw [beq_eq_false_iff_ne]; exact h1, ⟨h1, False.elim⟩⟩
/-- Strong's answer, and its error -/
def ssB (s t : ByteArray) : Bool := validB s && (validB t && strongV (nv s) (nv t))
def ssE (s t : ByteArray) : Int := if validB s = true ∧ validB t = true then 0 else 3
set_option maxHeartbeats 4000000 in
theorem prStrong_any (s t : ByteArray) (w : World) :
    Calls Tryd.prog 21 #[.string s, .string t] w fun e w' => e = .returned (.tuple #[.bool (ssB s t), .int .i64 (ssE s t)]) ∧ Below w.heap.size w w' := by
  by_cases hvs : validB s = true
  rotate_left
  · have hv2 : validB s = false := by simpa using hvs
    have e1 : ssB s t = false := by unfold ssB; rw [hv2]; rfl
    have e2 : ssE s t = 3 := by unfold ssE; rw [if_neg (by intro h; exact hvs h.1)]
    rw [e1, e2]
    have HV := Lib.hid hv2
    clear hvs hv2 e1 e2
    go_enter Tryd.func21, Tryd.ntmps21
    go_wp2_with (go_at_call 26; refine (Valid_any _ _).mono ?_; rw [HV.out]; rintro e w' ⟨rfl, rfl⟩)
    go_ret2
    exact ⟨rfl, Below.refl _ _⟩
  by_cases hvt : validB t = true
  rotate_left
  · have hv2 : validB t = false := by simpa using hvt
    have e1 : ssB s t = false := by unfold ssB; rw [hv2]; simp
    have e2 : ssE s t = 3 := by unfold ssE; rw [if_neg (by intro h; exact hvt h.2)]
    rw [e1, e2]
    have HV := Lib.hid hv2
    have HS := Lib.hid hvs
    clear hvs hvt hv2 e1 e2
    go_enter Tryd.func21, Tryd.ntmps21
    go_wp2_with fail
    refine (Valid_any _ _).mono ?_; rw [HS.out]; rintro e w' ⟨rfl, rfl⟩
    go_wp2_with fail
    refine (Valid_any _ _).mono ?_; rw [HV.out]; rintro e w' ⟨rfl, rfl⟩
    go_wp2_with fail
    go_ret2
    exact ⟨rfl, Below.refl _ _⟩
  have hs := isN_of_valid hvs
  have ht := isN_of_valid hvt
  have e1 : ssB s t = strongV (nv s) (nv t) := by unfold ssB; rw [hvs, hvt]; rfl
  have e2 : ssE s t = 0 := by unfold ssE; rw [if_pos ⟨hvs, hvt⟩]
  rw [e1, e2]
  clear e1 e2 hvs hvt
  obtain ⟨n, hn⟩ : ∃ n, nv s = n := ⟨_, rfl⟩
  obtain ⟨a, ha⟩ : ∃ a, nv t = a := ⟨_, rfl⟩
  rw [hn] at hs ⊢
  rw [ha] at ht ⊢
  clear hn ha
  obtain rfl := hs.eq
  have HS := Lib.hid hs
  have HT := Lib.hid ht
  have H2 : Hid (IsN (enc 2) 2) := ⟨rfl, by decide +kernel⟩
  have H1 : Hid (IsN (enc 1) 1) := ⟨rfl, by decide +kernel⟩
  clear hs ht
  by_cases h2 : n = 2
  · subst h2
    have hr : strongV 2 a = true := rfl
    rw [hr]
    have q1 := enc_same 2
    clear hr
    go_enter Tryd.func21, Tryd.ntmps21
    go_wp2_with fail
    refine (Valid_yes _ _ _ HS.out).mono ?_; rintro e w' ⟨rfl, rfl⟩
    go_wp2_with fail
    refine (Valid_yes _ _ _ HT.out).mono ?_; rintro e w' ⟨rfl, rfl⟩
    go_wp2_with fail
    refine (Of_any 2 _ (by omega)).mono ?_; rintro e w1 ⟨rfl, hb1⟩
    go_wp2_with fail
    go_ret2
    exact ⟨rfl, hb1⟩
  · obtain ⟨q1, q2⟩ := enc_diff h2
    by_cases h3 : n < 2
    · have hr : strongV n a = false := by unfold strongV; rw [if_neg h2, if_pos (.inl h3)]
      rw [hr]
      have hc := (ncmp_lt n 2).2 h3
      clear hr h2
      go_enter Tryd.func21, Tryd.ntmps21
      go_wp2_with fail
      refine (Valid_yes _ _ _ HS.out).mono ?_; rintro e w' ⟨rfl, rfl⟩
      go_wp2_with fail
      refine (Valid_yes _ _ _ HT.out).mono ?_; rintro e w' ⟨rfl, rfl⟩
      go_wp2_with fail
      refine (Of_any 2 _ (by omega)).mono ?_; rintro e w1 ⟨rfl, hb1⟩
      go_wp2_with fail
      refine (Cmp_any _ _ _ _ _ HS.out H2.out).mono ?_; rintro e w' ⟨rfl, rfl⟩
      go_wp2_with fail
      go_ret2
      exact ⟨rfl, hb1⟩
    · have hc := (ncmp_ge n 2).2 (by omega)
      have hbit : ∀ n : Nat, IsN (enc n) n → ∀ w, Calls Tryd.prog 48 #[.string (enc n), .int .i64 0] w fun e w' => e = .returned (.bool (decide (n % 2 = 1))) ∧ w = w' := fun n hn w => by
        have := Bit_any (enc n) n 0 w hn (by omega)
        rw [show tb n 0 = decide (n % 2 = 1) from by unfold tb; simp] at this
        exact this
      have HBIT := Lib.hid hbit
      clear hbit
      by_cases h4 : n % 2 = 0
      · have hr : strongV n a = false := by unfold strongV; rw [if_neg h2, if_pos (.inr h4)]
        rw [hr]
        have hd : decide (n % 2 = 1) = false := decide_eq_false (by omega)
        have HD := Lib.hid hd
        clear hr h2 hd
        go_enter Tryd.func21, Tryd.ntmps21
        go_wp2_with fail
        refine (Valid_yes _ _ _ HS.out).mono ?_; rintro e w' ⟨rfl, rfl⟩
        go_wp2_with fail
        refine (Valid_yes _ _ _ HT.out).mono ?_; rintro e w' ⟨rfl, rfl⟩
        go_wp2_with fail
        refine (Of_any 2 _ (by omega)).mono ?_; rintro e w1 ⟨rfl, hb1⟩
        go_wp2_with fail
        refine (Cmp_any _ _ _ _ _ HS.out H2.out).mono ?_; rintro e w' ⟨rfl, rfl⟩
        go_wp2_with fail
        refine (HBIT.out n HS.out _).mono ?_; rintro e w' ⟨rfl, rfl⟩
        rw [HD.out]
        go_wp2_with fail
        go_ret2
        exact ⟨rfl, hb1⟩
      · have hd : decide (n % 2 = 1) = true := decide_eq_true (by omega)
        have HD := Lib.hid hd
        have h5 : 3 ≤ n := by omega
        have hle : blen (n - 1) ≤ 128 := Nat.le_trans (blen_mono (Nat.sub_le n 1)) HS.out.le
        have hN1 : IsN (enc (n - 1)) (n - 1) := IsN.mk' hle
        have HN1 := Lib.hid hN1
        clear hd hle hN1
        go_enter Tryd.func21, Tryd.ntmps21
        go_wp2_with fail
        refine (Valid_yes _ _ _ HS.out).mono ?_; rintro e w' ⟨rfl, rfl⟩
        go_wp2_with fail
        refine (Valid_yes _ _ _ HT.out).mono ?_; rintro e w' ⟨rfl, rfl⟩
        go_wp2_with fail
        refine (Of_any 2 _ (by omega)).mono ?_; rintro e w1 ⟨rfl, hb1⟩
        go_wp2_with fail
        refine (Cmp_any _ _ _ _ _ HS.out H2.out).mono ?_; rintro e w' ⟨rfl, rfl⟩
        go_wp2_with fail
        refine (HBIT.out n HS.out _).mono ?_; rintro e w' ⟨rfl, rfl⟩
        rw [HD.out]
        go_wp2_with fail
        have z1 := hb1.size
        refine (Of_any 1 _ (by omega)).mono ?_; rintro e w2 ⟨rfl, hb2⟩
        have hb3 := hb1.trans (hb2.mono z1)
        have z3 := hb3.size
        clear hb1 hb2 z1
        go_wp2_with fail
        refine (Sub_any _ _ _ _ _ HS.out H1.out (by omega)).mono ?_; rintro e w4 ⟨rfl, hb4⟩
        have hb5 := hb3.trans (hb4.mono z3)
        have z5 := hb5.size
        clear hb3 hb4 z3
        go_wp2_with fail
        refine (DivMod_any _ _ _ _ _ HT.out HS.out (by omega)).mono ?_; rintro e w6 ⟨rfl, hb6⟩
        have hb7 := hb5.trans (hb6.mono z5)
        have z7 := hb7.size
        clear hb5 hb6 z5
        by_cases ha0 : a % n = 0
        · have hr : strongV n a = true := by unfold strongV; rw [if_neg h2, if_neg (by omega), if_pos ha0]
          rw [ha0]
          have HR := Lib.hid hr
          clear hr h2
          have hz : enc 0 = ⟨#[]⟩ := rfl
          rw [hz]
          go_wp2_with fail
          go_ret2
          rw [HR.out]
          exact ⟨rfl, hb7⟩
        · have hr : strongV n a = strongB n a := by unfold strongV; rw [if_neg h2, if_neg (by omega), if_neg ha0]
          have HR := Lib.hid hr
          have hne := notEmpty_enc (b := a % n) (by omega)
          have hne2 := toList_enc_nil (b := a % n) (by omega)
          clear hr h2 ha0
          go_wp2_with fail
          clear hne hne2 hc q1 q2
          go_loopw [13, 14] (fun vd vs wr => ∃ d k : Nat, vd = .string (enc d) ∧ vs = .int .i64 (k : Int) ∧ 0 < d ∧ d ≤ n - 1 ∧ k ≤ 1024 ∧ Hid (tz d + k = tz (n - 1)) ∧ Hid (odp d = odp (n - 1)) ∧ Below w.heap.size w wr) (fun vd _ _ => match vd with | .string x => nv x | _ => 0)
          case atStart => exact ⟨n - 1, 0, rfl, rfl, by omega, by omega, by omega, rfl, rfl, hb7⟩
          case round =>
            clear hb7 z7
            obtain ⟨d, k, rfl, rfl, hd0, hd1, hk, htz, hod, hb⟩ := hrel
            have zb := hb.size
            have hdn : IsN (enc d) d := IsN.mk' (Nat.le_trans (blen_mono hd1) HN1.out.le)
            have HDN := Lib.hid hdn
            clear hdn
            have htl : tz (n - 1) < 1024 := by
              have h1 := tz_lt (n := n - 1) (by omega) (bl (n - 1)) (lt_bl _)
              have h2 : bl (n - 1) ≤ 8 * blen (n - 1) := by rw [bl_le_iff, Nat.pow_mul]; exact lt_blen _
              have := HN1.out.le
              omega
            have HTL := Lib.hid htl
            clear htl
            by_cases hev : d % 2 = 0
            · have u1 : decide (d % 2 = 1) = false := decide_eq_false (by omega)
              have t1 : tz (d / 2) + (k + 1) = tz (n - 1) := by rw [← htz.out, tz_even (by omega) hev]; omega
              have t2 : odp (d / 2) = odp (n - 1) := by rw [← odp_even (by omega) hev]; exact hod.out
              have t3 : k + 1 ≤ 1024 := by have := HTL.out; omega
              have T1 := Lib.hid t1
              have T2 := Lib.hid t2
              have U1 := Lib.hid u1
              clear t1 t2 htz hod u1
              go_wp2_with fail
              refine (HBIT.out d HDN.out _).mono ?_; rintro e w' ⟨rfl, rfl⟩
              rw [U1.out]
              go_wp2_with fail
              refine (DivMod_any _ _ _ _ _ HDN.out H2.out (by omega)).mono ?_; rintro e w8 ⟨rfl, hb8⟩
              have hb9 := hb.trans (hb8.mono zb)
              go_wp2_with fail
              exact ⟨⟨d / 2, k + 1, rfl, by go_num, by omega, by omega, t3, T1.out, T2.out, hb9⟩, by simp only [nv_enc]; omega⟩
            · have u1 : decide (d % 2 = 1) = true := decide_eq_true (by omega)
              have t1 : tz (n - 1) = k := by rw [← htz.out, tz_odd (by omega)]; omega
              have t2 : odp (n - 1) = d := by rw [← hod.out, odp_odd (by omega)]
              have HK := Lib.hid t1
              have HD2 := Lib.hid t2
              have U1 := Lib.hid u1
              clear t1 t2 htz hod u1
              go_wp2_with fail
              refine (HBIT.out d HDN.out _).mono ?_; rintro e w' ⟨rfl, rfl⟩
              rw [U1.out]
              go_wp2_with fail
              refine (Exp_any _ _ _ _ _ _ _ HT.out HDN.out HS.out (by omega)).mono ?_; rintro e w8 ⟨rfl, hb8⟩
              have hb9 := hb.trans (hb8.mono zb)
              clear hb hb8 zb
              obtain ⟨x, hx⟩ : ∃ x, a ^ d % n = x := ⟨_, rfl⟩
              have hxn : x < n := by rw [← hx]; exact Nat.mod_lt _ (by omega)
              rw [hx]
              by_cases x1 : x = 1
              · have hs1 : strongB n a = true := strong_one (by rw [HD2.out, hx, x1])
                have HS1 := Lib.hid hs1
                subst x1
                have v1 := enc_same 1
                clear hx hs1
                go_wp2_with fail
                go_ret2
                rw [HR.out, HS1.out]
                exact ⟨rfl, hb9⟩
              · have nx1 : a ^ odp (n - 1) % n ≠ 1 := by rw [HD2.out, hx]; exact x1
                obtain ⟨v1, v2⟩ := enc_diff x1
                have NX1 := Lib.hid nx1
                have HX := Lib.hid hx
                clear nx1 hx
                go_wp2_with fail
                clear v1 v2
                go_loopw [15, 78] (fun vx vi wr => ∃ i xx : Nat, i ≤ k ∧ vi = .int .i64 i ∧ vx = .string (enc xx) ∧ xx < n ∧ Hid (xx = a ^ (d * 2 ^ i) % n) ∧ Hid (∀ j, j < i → hit n a j = false) ∧ Below w.heap.size w wr) (fun _ vi _ => k - (intOf vi).toNat)
                case atStart => exact ⟨0, x, by omega, rfl, rfl, hxn, by show _ = _; rw [← HX.out]; simp, fun j h => by omega, hb9⟩
                case round =>
                  clear hxn HX x1 hb9
                  obtain ⟨i, xx, hi, rfl, rfl, hxx, hxe, hno, hb⟩ := hrel
                  have zb := hb.size
                  by_cases his : i < k
                  · by_cases hyy : xx = n - 1
                    · have hs1 : strongB n a = true := strong_hit (i := i) (by rw [HK.out]; exact his) (by unfold hit; rw [HD2.out, ← hxe.out, hyy]; simp)
                      have HS1 := Lib.hid hs1
                      rw [hyy]
                      have v2 := enc_same (n - 1)
                      clear hs1 hyy
                      go_wp2_with fail
                      go_ret2
                      rw [HR.out, HS1.out]
                      exact ⟨rfl, hb⟩
                    · obtain ⟨v1, v2⟩ := enc_diff hyy
                      have hno4 : Hid (∀ j, j < i + 1 → hit n a j = false) := fun j hj => by
                        by_cases e : j = i
                        · subst e
                          unfold hit
                          rw [HD2.out, ← hxe.out]
                          simpa using hyy
                        · exact hno.out j (by omega)
                      have hsq : xx * xx % n = a ^ (d * 2 ^ (i + 1)) % n := by rw [hxe.out, sq_next]
                      have hyn := Nat.mod_lt (xx * xx) (show 0 < n by omega)
                      have HSQ := Lib.hid hsq
                      have hxN : IsN (enc xx) xx := IsN.mk' (Nat.le_trans (blen_mono (Nat.le_of_lt hxx)) HS.out.le)
                      have HXN := Lib.hid hxN
                      clear hyy hsq hxN
                      go_wp2_with fail
                      refine (ModMul_ok _ _ _ _ _ _ _ HXN.out HXN.out HS.out (by omega)).mono ?_
                      rintro e w6 ⟨rfl, hb6⟩
                      have hb7 := hb.trans (hb6.mono zb)
                      go_wp2_with fail
                      exact ⟨⟨i + 1, _, by omega, by go_num, rfl, hyn, HSQ.out, hno4, hb7⟩, by simp [intOf]; omega⟩
                  · obtain rfl : i = k := by omega
                    have hs1 : strongB n a = false := strong_no NX1.out (by rw [HK.out]; exact hno.out)
                    have HS1 := Lib.hid hs1
                    clear hs1
                    go_wp2_with fail
                    go_ret2
                    rw [HR.out, HS1.out]
                    exact ⟨rfl, hb⟩

end Go.Proofs.YtjminjliomffaaaDoor
