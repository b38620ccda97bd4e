import Derived.Test.YtjminjliomffaaaDoorCeC
/- certificate: probable, split, base. -/
namespace Go.Proofs.YtjminjliomffaaaDoor
open Go.RowKit Num
set_option maxRecDepth 20000
set_option linter.unusedVariables false
namespace Num
/-- a probable prime from 65536 on -/
def probB (n : Nat) : Bool := decide (65536 ≤ n) && bases.all (strongV n)
/-- the divisors below 65536, and what is left -/
def splF : Nat → Nat → Nat → List Nat → List Nat × Nat
  | 0, _, n, out => (out, n)
  | k + 1, p, n, out => if n = 1 then (out, n) else if n % p = 0 then splF k (p + 1) (strip 1024 p n 1).1 (out ++ [p]) else splF k (p + 1) n out
def spl (n : Nat) : List Nat × Nat := splF 65534 2 n []
/-- the least base, if there is one -/
def BaseR (n : Nat) (Q : List Nat) : Option Nat → Prop
  | some b => 2 ≤ b ∧ b < n ∧ provB n b Q = true ∧ ∀ x, 2 ≤ x → x < b → provB n x Q = false
  | none => ∀ x, 2 ≤ x → x < n → provB n x Q = false
theorem strip_out : ∀ (k f r o o' : Nat), (strip k f r o).1 = (strip k f r o').1
  | 0, _, _, _, _ => rfl
  | k + 1, f, r, o, o' => by
    unfold strip
    split
    · exact strip_out k f _ _ _
    · rfl
end Num
theorem cbase_at (k p : Nat) (w : World) (h : k < 12) (hp : bases[k]! = p) : (Instr.index 73 (.agg #[.int .u64 2, .int .u64 3, .int .u64 5, .int .u64 7, .int .u64 11, .int .u64 13, .int .u64 17, .int .u64 19, .int .u64 23, .int .u64 29, .int .u64 31, .int .u64 37]) (.int .i64 (k : Int))).run Tryd.prog w = .ok (.int .u64 (p : Int)) w := by
  have e : icells .u64 12 bf = #[.int .u64 2, .int .u64 3, .int .u64 5, .int .u64 7, .int .u64 11, .int .u64 13, .int .u64 17, .int .u64 19, .int .u64 23, .int .u64 29, .int .u64 31, .int .u64 37] := by kernel_rfl
  rw [← e]
  exact base_at k p w h hp
set_option maxHeartbeats 4000000 in
theorem ceProbable_any (s : ByteArray) (n : Nat) (w : World) (hs : IsN s n) :
    Calls Tryd.prog 29 #[.string s] w fun e w' => e = .returned (.bool (probB n)) ∧ Below w.heap.size w w' := by
  have HS := fun w => Small_any s n w hs
  by_cases hlt : n < 65536
  · have h8 : blen n ≤ 8 := (blen_le_iff n 8).2 (by omega)
    rw [sm_short h8] at HS
    simp only [h8, decide_true] at HS
    rw [show probB n = false by unfold probB; rw [decide_eq_false (by omega)]; rfl]
    have HS := Lib.hid HS
    have d1 : decide ((n : Int) < 65536) = true := decide_eq_true (by omega)
    have d2 : (n : Int) < 65536 := by omega
    clear h8 hs
    go_enter Tryd.func29, Tryd.ntmps29
    go_wp2_with fail
    refine (HS.out _).mono ?_; rintro e w1 ⟨rfl, rfl⟩
    go_wp2_with fail
    go_ret
    exact ⟨rfl, Below.refl _ _⟩
  · have hE : probB n = bases.all (strongV n) := by unfold probB; rw [decide_eq_true (by omega)]; rfl
    rw [hE]
    obtain ⟨V, hV⟩ : ∃ V, bases.all (strongV n) = V := ⟨_, rfl⟩
    rw [hV]
    have HV := Lib.hid hV
    have HST := Lib.hid (fun (p : Nat) (hp : p ≤ 37) w => by
      have h := prStrong_any s (enc p) w
      have hpN : IsN (enc p) p := IsN.mk' (Nat.le_trans (blen_mono (show p ≤ 255 by omega)) (by decide +kernel))
      have e1 : ssB s (enc p) = strongV n p := by unfold ssB; rw [hs.valid, hpN.valid, hs.nv, hpN.nv]; rfl
      have e2 : ssE s (enc p) = 0 := by unfold ssE; rw [if_pos ⟨hs.valid, hpN.valid⟩]
      rw [e1, e2] at h
      exact h : ∀ (p : Nat) (hp : p ≤ 37) w, Calls Tryd.prog 21 #[.string s, .string (enc p)] w fun e w' => e = .returned (.tuple #[.bool (strongV n p), .int .i64 0]) ∧ Below w.heap.size w w')
    obtain ⟨x, b, hx, hsm⟩ : ∃ (x : Nat) (b : Bool), (b = true → ¬ (x : Int) < 65536) ∧ (∀ w, Calls Tryd.prog 41 #[.string s] w fun e w' => e = .returned (.tuple #[.int .u64 (x : Int), .bool b]) ∧ w = w') := by
      by_cases h8 : blen n ≤ 8
      · refine ⟨n, true, fun _ => by omega, fun w => ?_⟩
        have := HS w
        rw [sm_short h8] at this
        simpa only [h8, decide_true] using this
      · refine ⟨sm n, false, (fun h => by cases h), fun w => ?_⟩
        have := HS w
        simpa only [h8, decide_false] using this
    have HSM := Lib.hid hsm
    clear HS hs hE hV hsm hlt
    have hd : b = true → decide ((x : Int) < 65536) = false := fun h => decide_eq_false (hx h)
    cases b
    all_goals
      first
        | (have d1 : decide ((x : Int) < 65536) = false := hd rfl; have d2 : ¬ (x : Int) < 65536 := hx rfl; clear hd hx)
        | clear hd hx
      go_enter Tryd.func29, Tryd.ntmps29
      go_wp2_with fail
      refine (HSM.out _).mono ?_; rintro e w1 ⟨rfl, rfl⟩
      go_wp2_with fail
      obtain ⟨AR, hAR⟩ : ∃ AR, Value.agg #[.int .u64 2, .int .u64 3, .int .u64 5, .int .u64 7, .int .u64 11, .int .u64 13, .int .u64 17, .int .u64 19, .int .u64 23, .int .u64 29, .int .u64 31, .int .u64 37] = AR := ⟨_, rfl⟩
      have HBA := Lib.hid (fun k p w h hp => cbase_at k p w h hp)
      rw [hAR] at HBA ⊢
      clear hAR
      go_loopw [20] (fun i wr => ∃ k : Nat, k ≤ 12 ∧ i = .int .i64 k ∧ Hid ((bases.take k).all (strongV n) = true) ∧ Below w.heap.size w wr) (fun i _ => 12 - (intOf i).toNat)
      case atStart => exact ⟨0, by omega, rfl, Lib.hid (by simp), Below.refl _ _⟩
      case round =>
        try clear d1 d2
        obtain ⟨k, hk, rfl, hA, hB⟩ := hrel
        by_cases hlt : k < 12
        · have hpb : ∀ i : Nat, i < 12 → bases[i]! ≤ 37 := by decide
          have hp1 := hpb k hlt
          have hl12 : bases.length = 12 := rfl
          have htk : bases.take (k + 1) = bases.take k ++ [bases[k]!] := by rw [List.take_succ_eq_append_getElem (by omega), getElem!_pos bases k (by omega)]
          have hmem : bases[k]! ∈ bases := by rw [getElem!_pos bases k (by omega)]; exact List.getElem_mem _
          clear hpb
          obtain ⟨p, hp⟩ : ∃ p, bases[k]! = p := ⟨_, rfl⟩
          have hrun := fun w => HBA.out k p w hlt hp
          rw [hp] at hp1 htk hmem
          have HO := Lib.hid (fun w => Of_any p w (by omega))
          have HST2 := HST.out p hp1
          have hbad : strongV n p = false → V = false := fun h => by
            rw [← HV.out, List.all_eq_false]
            exact ⟨p, hmem, by rw [h]; simp⟩
          obtain ⟨D, hD⟩ : ∃ D, strongV n p = D := ⟨_, rfl⟩
          simp only [hD] at HST2 hbad
          have hgood : D = true → (bases.take (k + 1)).all (strongV n) = true := fun h => by
            rw [htk, List.all_append, hA.out]; simp [hD, h]
          have HST2 := Lib.hid HST2
          have HGB := Lib.hid (And.intro hbad hgood)
          clear hp htk hmem hbad hgood hD hl12
          cases D
          · obtain rfl : V = false := HGB.out.1 rfl
            go_wp2_with fail
            refine (HO.out _).mono ?_; rintro e w2 ⟨rfl, b2⟩
            have b3 := hB.trans (b2.mono hB.size)
            go_wp2_with fail
            refine (HST2.out _).mono ?_; rintro e w4 ⟨rfl, b4⟩
            have b5 := b3.trans (b4.mono b3.size)
            go_wp2_with fail
            go_ret
            exact ⟨rfl, b5⟩
          · have HG := Lib.hid (HGB.out.2 rfl)
            go_wp2_with fail
            refine (HO.out _).mono ?_; rintro e w2 ⟨rfl, b2⟩
            have b3 := hB.trans (b2.mono hB.size)
            go_wp2_with fail
            refine (HST2.out _).mono ?_; rintro e w4 ⟨rfl, b4⟩
            have b5 := b3.trans (b4.mono b3.size)
            go_wp2_with fail
            exact ⟨⟨k + 1, by omega, by go_num, HG, b5⟩, by simp [intOf]; omega⟩
        · obtain rfl : k = 12 := by omega
          obtain rfl : V = true := HV.out.symm.trans hA.out
          go_wp2_with fail
          go_ret
          exact ⟨rfl, hB⟩
set_option maxHeartbeats 4000000 in
theorem ceSplit_any (s : ByteArray) (m : Nat) (w : World) (hs : IsN s m) (h1 : 1 ≤ m) :
    Calls Tryd.prog 31 #[.string s] w fun e w' => (∃ v, e = .returned (.tuple #[v, .string (enc (spl m).2)]) ∧ w'.ownsRow w.heap.size 27 1 v (spl m).1.length ((spl m).1.map fun q => Value.string (enc q))) ∧ Below w.heap.size w w' := by
  obtain ⟨i0, hi, hz0, hz1, hz2⟩ := info_parts info_natC
  have hbm : blen m ≤ 128 := hs.le
  obtain rfl := hs.eq
  obtain ⟨T, hT⟩ : ∃ T, spl m = T := ⟨_, rfl⟩
  rw [hT]
  have H0 : Hid (splF 65534 2 m [] = T) := hT
  clear hs hT
  go_enter Tryd.func31, Tryd.ntmps31
  go_wp2_with fail
  go_loopw [0, 4, 5] (fun v0 v4 v5 wr => ∃ (p n : Nat) (out : List Nat), 2 ≤ p ∧ p ≤ 65536 ∧ v5 = .int .u64 (p : Int) ∧ v0 = .string (enc n) ∧ wr.ownsRow w.heap.size 27 1 v4 out.length (out.map fun q => Value.string (enc q)) ∧ Hid (splF (65536 - p) p n out = T) ∧ 1 ≤ n ∧ n ≤ m ∧ out.length ≤ p ∧ Below w.heap.size w wr) (fun _ _ v5 _ => 65537 - (intOf v5).toNat)
  case atStart => exact ⟨2, m, [], by omega, by omega, rfl, rfl, World.ownsRow_nil _ _ _ _, H0, h1, Nat.le_refl _, by simp, Below.refl _ _⟩
  case round =>
    clear H0
    obtain ⟨p, n, out, h2, hp, rfl, rfl, hO, hS, hn1, hnm, hlen, hB⟩ := hrel
    have IN : IsN (enc n) n := IsN.mk' (Nat.le_trans (blen_mono hnm) hbm)
    by_cases hlt : p < 65536
    · have d1 : decide ((p : Int) < 65536) = true := decide_eq_true (by omega)
      have hS2 := hS.out
      obtain ⟨k, hk⟩ : ∃ k, 65536 - p = k + 1 := ⟨65535 - p, by omega⟩
      rw [hk] at hS2
      unfold splF at hS2
      by_cases hn : n = 1
      · subst hn
        rw [if_pos rfl] at hS2
        subst hS2
        clear hS
        go_wp2_with fail
        refine (cOf1 _).mono ?_; rintro e w1 ⟨rfl, b1⟩
        have b2 := hB.trans (b1.mono hB.size)
        have hO2 := ownbC hO b1
        go_wp2_with fail
        go_ret2
        exact ⟨⟨_, rfl, hO2⟩, b2⟩
      · rw [if_neg hn] at hS2
        obtain ⟨t1, t2⟩ := enc_diff (a := n) (b := 1) hn
        have IP : IsN (enc p) p := IsN.mk' (Nat.le_trans (blen_mono (show p ≤ 65536 by omega)) (by decide +kernel))
        have HOF := Lib.hid (fun w => Of_any p w (by omega))
        have HD := (fun w => ceDivide_any (enc n) (enc p) n p w IN IP (by omega))
        have o1 : IntKind.u64.wrap ((p : Int) + 1) = ((p + 1 : Nat) : Int) := by rw [wraps_u64 _ (by omega) (by omega)]; omega
        by_cases hd : n % p = 0
        · rw [if_pos hd] at hS2
          simp only [show (n % p == 0) = true by rw [hd]; rfl] at HD
          have HD := Lib.hid HD
          have hst := strip_out 1024 p n 1 1
          obtain ⟨U, hU⟩ : ∃ U, (strip 1024 p n 1).1 = U := ⟨_, rfl⟩
          rw [hU] at hS2
          have HS3 : Hid (splF (65536 - (p + 1)) (p + 1) U (out ++ [p]) = T) := by show _ = _; rw [show 65536 - (p + 1) = k by omega]; exact hS2
          have HU0 : Hid (∃ j o, (strip j p (n / p) o).1 = U ∧ n / p < 2 ^ j) := by
            refine ⟨1023, 1 * p, ?_, ?_⟩
            · have := hU
              unfold strip at this
              rw [if_pos hd] at this
              exact this
            · have h1 : n < 256 ^ 128 := (blen_le_iff n 128).1 IN.le
              have h2 : (256 : Nat) ^ 128 = 2 ^ 1023 * 2 := by decide +kernel
              have h3 : p * (n / p) = n := Nat.mul_div_cancel' (Nat.dvd_of_mod_eq_zero hd)
              have h4 : 2 * (n / p) ≤ p * (n / p) := Nat.mul_le_mul_right _ (show 2 ≤ p by assumption)
              omega
          have hq1 : 1 ≤ n / p := by
            have h3 : p * (n / p) = n := Nat.mul_div_cancel' (Nat.dvd_of_mod_eq_zero hd)
            rcases Nat.eq_zero_or_pos (n / p) with h | h
            · rw [h] at h3; omega
            · exact h
          have hqm : n / p ≤ m := Nat.le_trans (Nat.div_le_self _ _) hnm
          have hq2 : n / p ≤ n := Nat.div_le_self _ _
          have HIP := Lib.hid IP
          generalize n / p = n2 at HD HU0 hq1 hqm hq2
          clear hS hd hS2 hk hn hst hU IP IN
          go_wp2_with fail
          refine (cOf1 _).mono ?_; rintro e w1 ⟨rfl, b1⟩
          have b2 := hB.trans (b1.mono hB.size)
          have hO2 := ownbC hO b1
          go_wp2_with fail
          refine (HOF.out _).mono ?_; rintro e w3 ⟨rfl, b3⟩
          have b4 := b2.trans (b3.mono b2.size)
          have hO4 := ownbC hO2 b3
          go_wp2_with fail
          refine (HD.out _).mono ?_; rintro e w5 ⟨rfl, b5⟩
          have b6 := b4.trans (b5.mono b4.size)
          have hO6 := ownbC hO4 b5
          go_wp2_with (at_builtin; refine wpList_append_own _ rfl (.tmp 28) (.tmp 30) 55 rfl w.heap.size 27 i0 (.string ⟨#[]⟩) 1 16 Tryd.underlying55 hi hz0 hz1 hz2 rfl (by decide) _ out.length (out.map fun p => Value.string (enc p)) rfl (hO6.alloc _) ⟨w5.heap.size, 0, none⟩ 1 1 [.string (enc p)] rfl rfl (one_cellC (new_cell0 _ _ _ _)) (by simp [Value.oneCell']) (by unfold maxLen; omega) (by omega) (by simp; have := b6.size; omega) ?_)
          intro v' w6 hown' hgrow _
          have hB' := (b6.alloc b6.size (.cells #[.string (enc p)] 27)).grown hgrow (by simp; have := b6.size; omega) (fun k e => (hO6.lt k e).1)
          have hO7 : w6.ownsRow w.heap.size 27 1 v' (out ++ [p]).length ((out ++ [p]).map fun q => Value.string (enc q)) := by rw [List.length_append, List.map_append]; exact hown'
          clear hO hO2 hO4 hO6 hown' hgrow b1 b2 b3 b4 b5 b6 HD HOF t1 t2
          have hl2 : (out ++ [p]).length ≤ p + 1 := by simp; omega
          generalize out ++ [p] = out2 at HS3 hO7 hl2
          go_wp2_with fail
          have HHP := Lib.hid (And.intro h2 hlt)
          have o2 := o1
          go_loopw [0, 7, 8] (fun v0 v7 v8 wq => ∃ (x y : Nat) (b : Bool), v0 = .string (enc x) ∧ v7 = .string (enc y) ∧ v8 = .bool b ∧ Hid ((b = true ∧ 1 ≤ y ∧ y ≤ m ∧ y ≤ x ∧ ∃ j o, (strip j p y o).1 = U ∧ y < 2 ^ j) ∨ (b = false ∧ x = U ∧ 1 ≤ x ∧ x ≤ m)) ∧ Below w6.heap.size w6 wq) (fun v0 v7 v8 _ => (match v8 with | .bool true => 1 | _ => 0) + nvV v7)
          case atStart => exact ⟨n, n2, true, rfl, rfl, rfl, .inl ⟨rfl, hq1, hqm, hq2, HU0.out⟩, Below.refl _ _⟩
          case round =>
            clear hq1 hqm hq2 HU0
            obtain ⟨x, y, b, rfl, rfl, rfl, hI, hBq⟩ := hrel
            cases b
            · obtain ⟨rfl, hx1, hxm⟩ : x = U ∧ 1 ≤ x ∧ x ≤ m := by
                rcases hI.out with ⟨h, _⟩ | ⟨_, h⟩
                · cases h
                · exact h
              have hO8 := ownbC hO7 hBq
              have hB8 := hB'.trans (hBq.mono hB'.size)
              clear hI
              go_wp2_with fail
              exact ⟨⟨p + 1, x, out2, by omega, by omega, by go_num, rfl, hO8, HS3, hx1, hxm, hl2, hB8⟩, by simp [intOf]; omega⟩
            · obtain ⟨hy1, hym, hyx, j, o, hj, hyj⟩ : 1 ≤ y ∧ y ≤ m ∧ y ≤ x ∧ ∃ j o, (strip j p y o).1 = U ∧ y < 2 ^ j := by
                rcases hI.out with ⟨_, h⟩ | ⟨h, _⟩
                · exact h
                · cases h
              have IY : IsN (enc y) y := IsN.mk' (Nat.le_trans (blen_mono hym) hbm)
              have HDY := (fun w => ceDivide_any (enc y) (enc p) y p w IY HIP.out (by omega))
              obtain ⟨j', rfl⟩ : ∃ j', j = j' + 1 := by
                cases j with
                | zero => simp at hyj; omega
                | succ j' => exact ⟨j', rfl⟩
              unfold strip at hj
              by_cases hd : y % p = 0
              · rw [if_pos hd] at hj
                simp only [show (y % p == 0) = true by rw [hd]; rfl] at HDY
                have h3 : p * (y / p) = y := Nat.mul_div_cancel' (Nat.dvd_of_mod_eq_zero hd)
                have hy2 : 1 ≤ y / p := by
                  rcases Nat.eq_zero_or_pos (y / p) with h | h
                  · rw [h] at h3; omega
                  · exact h
                have hlt2 : y / p < y := Nat.div_lt_self (by omega) (by omega)
                have hyj2 : y / p < 2 ^ j' := by
                  have h4 : 2 * (y / p) ≤ p * (y / p) := Nat.mul_le_mul_right _ (show 2 ≤ p by assumption)
                  rw [Nat.pow_succ] at hyj
                  omega
                have HJ : Hid (1 ≤ y / p ∧ y / p ≤ m ∧ y / p ≤ y ∧ ∃ j o, (strip j p (y / p) o).1 = U ∧ y / p < 2 ^ j) := ⟨hy2, by omega, by omega, j', _, hj, hyj2⟩
                have HMS : nv (enc (y / p)) < nv (enc y) := by rw [nv_enc, nv_enc]; exact hlt2
                have HDY := Lib.hid HDY
                have HMS := Lib.hid HMS
                generalize y / p = y2 at *
                clear hd hj h3 hyj hyj2 IY hI
                go_wp2_with fail
                refine (HDY.out _).mono ?_; rintro e w7 ⟨rfl, b7⟩
                have b8 := hBq.trans (b7.mono hBq.size)
                go_wp2_with fail
                exact ⟨⟨y, y2, true, rfl, rfl, rfl, .inl ⟨rfl, HJ.out⟩, b8⟩, by have := HMS.out; simp only [nvV]; omega⟩
              · rw [if_neg hd] at hj
                simp only [show (y % p == 0) = false by rw [beq_eq_false_iff_ne]; exact hd] at HDY
                have hj2 : y = U := hj
                have HJ : Hid (y = U ∧ 1 ≤ y ∧ y ≤ m) := ⟨hj2, hy1, hym⟩
                have HMS : nv (enc (y / p)) ≤ nv (enc y) := by rw [nv_enc, nv_enc]; exact Nat.div_le_self _ _
                have HDY := Lib.hid HDY
                have HMS := Lib.hid HMS
                generalize y / p = y2 at *
                clear hd hj hj2 hyj IY hI
                go_wp2_with fail
                refine (HDY.out _).mono ?_; rintro e w7 ⟨rfl, b7⟩
                have b8 := hBq.trans (b7.mono hBq.size)
                go_wp2_with fail
                exact ⟨⟨y, y2, false, rfl, rfl, rfl, .inr ⟨rfl, HJ.out⟩, b8⟩, by have := HMS.out; simp only [nvV]; omega⟩
        · rw [if_neg hd] at hS2
          simp only [show (n % p == 0) = false by rw [beq_eq_false_iff_ne]; exact hd] at HD
          have HD := Lib.hid HD
          have HS3 : Hid (splF (65536 - (p + 1)) (p + 1) n out = T) := by show _ = _; rw [show 65536 - (p + 1) = k by omega]; exact hS2
          generalize n / p = n2 at HD
          clear hS hd hS2 hk hn
          go_wp2_with fail
          refine (cOf1 _).mono ?_; rintro e w1 ⟨rfl, b1⟩
          have b2 := hB.trans (b1.mono hB.size)
          have hO2 := ownbC hO b1
          go_wp2_with fail
          refine (HOF.out _).mono ?_; rintro e w3 ⟨rfl, b3⟩
          have b4 := b2.trans (b3.mono b2.size)
          have hO4 := ownbC hO2 b3
          go_wp2_with fail
          refine (HD.out _).mono ?_; rintro e w5 ⟨rfl, b5⟩
          have b6 := b4.trans (b5.mono b4.size)
          have hO6 := ownbC hO4 b5
          go_wp2_with fail
          exact ⟨⟨p + 1, n, out, by omega, by omega, by go_num, rfl, hO6, HS3, hn1, hnm, by omega, b6⟩, by simp [intOf]; omega⟩
    · obtain rfl : p = 65536 := by omega
      have hS2 := hS.out
      have hS3 : (out, n) = T := hS2
      subst hS3
      clear hS hS2
      go_wp2_with fail
      go_ret2
      exact ⟨⟨_, rfl, hO⟩, hB⟩
theorem provB_bad {n x q : Nat} {Q : List Nat} (hq : q ∈ Q) (h : badF n x q = true) : provB n x Q = false := by
  rw [provB_eq, List.any_eq_true.2 ⟨q, hq, h⟩]; simp
theorem base_step {n x : Nat} {Q : List Nat} (h : ∀ y, 2 ≤ y → y ≤ x → provB n y Q = false) (h2 : provB n (x + 1) Q = false) : ∀ y, 2 ≤ y → y ≤ x + 1 → provB n y Q = false := fun y h1 h3 => by
  rcases Nat.lt_or_ge y (x + 1) with h4 | h4
  · exact h y h1 (by omega)
  · rw [show y = x + 1 by omega]; exact h2
set_option maxHeartbeats 8000000 in
theorem ceBase_any (s : ByteArray) (n : Nat) (v : Value) (Q : List Nat) (w : World) (hs : IsN s n) (h2 : 2 ≤ n) (hv : SL w v (Q.map enc)) (hQ : ∀ q ∈ Q, 2 ≤ q ∧ blen q ≤ 128) (hL : Q.length ≤ 1000000) :
    Calls Tryd.prog 35 #[.string s, v] w fun e w' => (∃ (o : Option Nat) (r : ByteArray) (b : Bool), e = .returned (.tuple #[.string r, .bool b]) ∧ r = (match o with | some x => enc x | none => ⟨#[]⟩) ∧ b = o.isSome ∧ BaseR n Q o) ∧ Below w.heap.size w w' := by
  obtain ⟨ao, c, rfl, H⟩ := hv.form
  have hlen : (Q.map enc).length = Q.length := by simp
  obtain ⟨N, hN⟩ : ∃ N, Q.length = N := ⟨_, rfl⟩
  rw [hlen, hN]
  rw [hN] at hL
  have H2 := Lib.hid (fun k (hk : k < Q.length) => by have := H.out k (by simpa using hk); rw [map_enc_at hk] at this; exact this : ∀ k (hk : k < Q.length), ∃ b, ao = some ⟨b, 0, none⟩ ∧ b < w.heap.size ∧ w.cell? ⟨b, k, none⟩ = some (.string (enc Q[k])))
  have HQ := Lib.hid hQ
  have HN := Lib.hid hN
  have hm : IsN (enc (n - 1)) (n - 1) := IsN.mk' (Nat.le_trans (blen_mono (by omega)) hs.le)
  have HM := Lib.hid hm
  have HLs := Lib.hid (fun w => ceLess_any s n w hs (by omega))
  have hsn := hs.eq
  subst hsn
  have HNN := Lib.hid hs
  clear hv H hlen hQ hN hs hm
  go_enter Tryd.func35, Tryd.ntmps35
  go_wp2_with fail
  go_step3
  go_wp2_with fail
  refine (cOf1 _).mono ?_; rintro e w1 ⟨rfl, b1⟩
  go_wp2_with fail
  refine (HLs.out _).mono ?_; rintro e w2 ⟨rfl, b2⟩
  have b3 := b1.trans (b2.mono b1.size)
  clear b1 b2
  go_wp2_with fail
  go_step3
  go_wp2_with fail
  go_loopw [8] (fun v8 wr => ∃ x : Nat, 1 ≤ x ∧ x < n ∧ v8 = .string (enc x) ∧ Hid (∀ y, 2 ≤ y → y ≤ x → provB n y Q = false) ∧ Below w.heap.size w wr) (fun v8 _ => n - nvV v8)
  case atStart => exact ⟨1, by omega, by omega, rfl, Lib.hid (fun y h1 h2 => by omega), b3⟩
  case round =>
    clear b3
    obtain ⟨x, hx1, hxn, rfl, hP, hB⟩ := hrel
    have IX0 : IsN (enc x) x := IsN.mk' (Nat.le_trans (blen_mono (by omega)) HNN.out.le)
    have hb1 : blen (x + 1) ≤ 128 := Nat.le_trans (blen_mono (show x + 1 ≤ n by omega)) HNN.out.le
    have IX : IsN (enc (x + 1)) (x + 1) := IsN.mk' hb1
    have HA := (fun w => Add_any (enc x) (enc 1) x 1 w IX0 isC1)
    simp only [fitS_ok hb1, fitE_ok hb1] at HA
    have HMS : n - nv (enc (x + 1)) < n - nv (enc x) := by rw [nv_enc, nv_enc]; omega
    have HMS := Lib.hid HMS
    obtain ⟨X, hX⟩ : ∃ X, x + 1 = X := ⟨_, rfl⟩
    have hst : provB n X Q = false → ∀ y, 2 ≤ y → y ≤ X → provB n y Q = false := fun h => by subst hX; exact base_step hP.out h
    have hX2 : 2 ≤ X := by omega
    have hXn : X ≤ n := by omega
    rw [hX] at HA IX HMS
    have hPX : ∀ y, 2 ≤ y → y < X → provB n y Q = false := fun y h1 h2 => hP.out y h1 (by omega)
    have HPX := Lib.hid hPX
    have HST := Lib.hid hst
    have HA := Lib.hid HA
    have HIX := Lib.hid IX
    clear hX hb1 IX0 hP hst hPX IX
    by_cases hXe : X = n
    · have hc : ncmp X n = 0 := by subst hXe; unfold ncmp; simp
      have HC := Lib.hid (cmpW HIX.out HNN.out hc)
      have HNone : Hid (BaseR n Q none) := fun y h1 h2 => HPX.out y h1 (by omega)
      clear hc hXe
      go_wp2_with fail
      refine (HA.out _).mono ?_; rintro e w4 ⟨rfl, b4⟩
      have b5 := hB.trans (b4.mono hB.size)
      go_wp2_with fail
      refine (HC.out _).mono ?_; rintro e w6 ⟨rfl, b6⟩
      have b7 := b5.trans (b6.mono b5.size)
      go_wp2_with fail
      (try rw [Exit.noGoto_ret])
      go_ret2
      exact ⟨⟨none, _, _, rfl, rfl, rfl, HNone.out⟩, b7⟩
    · have hc : ncmp X n = -1 := by unfold ncmp; rw [if_pos (by omega)]
      have HC := Lib.hid (cmpW HIX.out HNN.out hc)
      have hXn' : X < n := by omega
      have HE := (fun w => Exp_any (enc X) (enc (n - 1)) (enc n) X (n - 1) n w HIX.out HM.out HNN.out (by omega))
      obtain ⟨Z, hZ⟩ : ∃ Z, X ^ (n - 1) % n = Z := ⟨_, rfl⟩
      simp only [hZ] at HE
      have HE := Lib.hid HE
      by_cases hZ1 : Z = 1
      · subst hZ1
        have HZ := Lib.hid hZ
        clear hc hXe hZ
        go_wp2_with fail
        refine (HA.out _).mono ?_; rintro e w4 ⟨rfl, b4⟩
        have b5 := hB.trans (b4.mono hB.size)
        go_wp2_with fail
        refine (HC.out _).mono ?_; rintro e w6 ⟨rfl, b6⟩
        have b7 := b5.trans (b6.mono b5.size)
        go_wp2_with fail
        refine (HE.out _).mono ?_; rintro e w8 ⟨rfl, b8⟩
        have b9 := b7.trans (b8.mono b7.size)
        clear b4 b5 b6 b7 b8 hB
        go_wp2_with fail
        go_loopw [45] (fun i wq => ∃ k : Nat, k ≤ N ∧ i = .int .i64 k ∧ Hid ((Q.take k).any (badF n X) = false) ∧ Below w.heap.size w wq) (fun i _ => N - (intOf i).toNat)
        case atStart => exact ⟨0, by omega, rfl, Lib.hid (by simp), b9⟩
        case round =>
          clear b9
          obtain ⟨k, hk, rfl, hA, hBq⟩ := hrel
          by_cases hlt : k < N
          · have hkQ : k < Q.length := by rw [HN.out]; exact hlt
            obtain ⟨b, rfl, hb, hc⟩ := H2.out k hkQ
            replace hc := (hBq.cell (p := ⟨b, k, none⟩) hb).trans hc
            obtain ⟨q2, qb⟩ := HQ.out _ (List.getElem_mem hkQ)
            have HT : (Q.take (k + 1)).any (badF n X) = badF n X Q[k] := by
              rw [List.take_succ_eq_append_getElem hkQ, List.any_append, hA.out]; simp
            have HS : badF n X Q[k] = true → provB n X Q = false := fun h => provB_bad (List.getElem_mem hkQ) h
            generalize Q[k] = f at hc q2 qb HT HS
            have IF : IsN (enc f) f := IsN.mk' qb
            have HDV := Lib.hid (fun w => ceDivide_any (enc (n - 1)) (enc f) (n - 1) f w HM.out IF (by omega))
            have IE : IsN (enc ((n - 1) / f)) ((n - 1) / f) := IsN.mk' (Nat.le_trans (blen_mono (Nat.div_le_self _ _)) HM.out.le)
            have HEF := (fun w => Exp_any (enc X) (enc ((n - 1) / f)) (enc n) X ((n - 1) / f) n w HIX.out IE HNN.out (by omega))
            have hYn : X ^ ((n - 1) / f) % n < n := Nat.mod_lt _ (by omega)
            unfold badF at HT HS
            obtain ⟨Y, hY⟩ : ∃ Y, X ^ ((n - 1) / f) % n = Y := ⟨_, rfl⟩
            simp only [hY] at HEF hYn HT HS
            have IYY : IsN (enc Y) Y := IsN.mk' (Nat.le_trans (blen_mono (show Y ≤ n by omega)) HNN.out.le)
            by_cases hY0 : Y = 0
            · subst hY0
              simp only [show enc 0 = ⟨#[]⟩ from rfl] at HEF
              have HS2 := Lib.hid (HST.out (HS rfl))
              have HEF := Lib.hid HEF
              clear hkQ q2 qb HT HS IF IE hYn hY IYY
              go_wp2_with fail
              refine (HDV.out _).mono ?_; rintro e w4 ⟨rfl, b4⟩
              have b5 := hBq.trans (b4.mono hBq.size)
              go_wp2_with fail
              refine (HEF.out _).mono ?_; rintro e w6 ⟨rfl, b6⟩
              have b7 := b5.trans (b6.mono b5.size)
              go_wp2_with fail
              exact ⟨⟨X, by omega, hXn', rfl, HS2, b7⟩, by simpa [nvV] using HMS.out⟩
            · obtain ⟨k1, k2⟩ := And.intro (notEmpty_enc (b := Y) (by omega)) (toList_enc_nil (b := Y) (by omega))
              have HLY := Lib.hid (fun w => ceLess_any (enc Y) Y w IYY (by omega))
              have IY1 : IsN (enc (Y - 1)) (Y - 1) := IsN.mk' (Nat.le_trans (blen_mono (show Y - 1 ≤ n by omega)) HNN.out.le)
              have HG := (fun w => Gcd_any (enc (Y - 1)) (enc n) (Y - 1) n w IY1 HNN.out)
              rw [show (Y == 0) = false by rw [beq_eq_false_iff_ne]; exact hY0, Bool.false_or] at HT HS
              obtain ⟨g, hg⟩ : ∃ g, Nat.gcd (Y - 1) n = g := ⟨_, rfl⟩
              simp only [hg] at HG HT HS
              have HEF := Lib.hid HEF
              have HG := Lib.hid HG
              by_cases hg1 : g = 1
              · subst hg1
                have HT2 : Hid ((Q.take (k + 1)).any (badF n X) = false) := HT
                clear hkQ q2 qb HT HS IF IE hYn hY IYY IY1 hg hY0
                go_wp2_with fail
                refine (HDV.out _).mono ?_; rintro e w4 ⟨rfl, b4⟩
                have b5 := hBq.trans (b4.mono hBq.size)
                go_wp2_with fail
                refine (HEF.out _).mono ?_; rintro e w6 ⟨rfl, b6⟩
                have b7 := b5.trans (b6.mono b5.size)
                go_wp2_with fail
                refine (HLY.out _).mono ?_; rintro e w8 ⟨rfl, b8⟩
                have b9 := b7.trans (b8.mono b7.size)
                go_wp2_with fail
                refine (HG.out _).mono ?_; rintro e w10 ⟨rfl, b10⟩
                have b11 := b9.trans (b10.mono b9.size)
                go_wp2_with fail
                exact ⟨⟨k + 1, by omega, by go_num, HT2, b11⟩, by simp [intOf]; omega⟩
              · obtain ⟨t1, t2⟩ := enc_diff (a := g) (b := 1) hg1
                have HS2 := Lib.hid (HST.out (HS (by rw [show (g == 1) = false by rw [beq_eq_false_iff_ne]; exact hg1]; rfl)))
                clear hkQ q2 qb HT HS IF IE hYn hY IYY IY1 hg hY0 hg1
                go_wp2_with fail
                refine (HDV.out _).mono ?_; rintro e w4 ⟨rfl, b4⟩
                have b5 := hBq.trans (b4.mono hBq.size)
                go_wp2_with fail
                refine (HEF.out _).mono ?_; rintro e w6 ⟨rfl, b6⟩
                have b7 := b5.trans (b6.mono b5.size)
                go_wp2_with fail
                refine (HLY.out _).mono ?_; rintro e w8 ⟨rfl, b8⟩
                have b9 := b7.trans (b8.mono b7.size)
                go_wp2_with fail
                refine (HG.out _).mono ?_; rintro e w10 ⟨rfl, b10⟩
                have b11 := b9.trans (b10.mono b9.size)
                go_wp2_with fail
                exact ⟨⟨X, by omega, hXn', rfl, HS2, b11⟩, by simpa [nvV] using HMS.out⟩
          · obtain rfl : k = N := by omega
            have hAll := hA.out
            rw [List.take_of_length_le (by rw [HN.out]; omega)] at hAll
            have hG : BaseR n Q (some X) := ⟨hX2, hXn', by rw [provB_eq, hAll, HZ.out]; rfl, HPX.out⟩
            have HGG := Lib.hid hG
            clear hAll hG hA
            go_wp2_with fail
            (try rw [Exit.noGoto_ret])
            go_ret2
            exact ⟨⟨some X, _, _, rfl, rfl, rfl, HGG.out⟩, hBq⟩
      · obtain ⟨t1, t2⟩ := enc_diff (a := Z) (b := 1) hZ1
        have HS2 := Lib.hid (HST.out (by rw [provB_eq, hZ, show (Z == 1) = false by rw [beq_eq_false_iff_ne]; exact hZ1]; rfl))
        clear hc hXe hZ hZ1
        go_wp2_with fail
        refine (HA.out _).mono ?_; rintro e w4 ⟨rfl, b4⟩
        have b5 := hB.trans (b4.mono hB.size)
        go_wp2_with fail
        refine (HC.out _).mono ?_; rintro e w6 ⟨rfl, b6⟩
        have b7 := b5.trans (b6.mono b5.size)
        go_wp2_with fail
        refine (HE.out _).mono ?_; rintro e w8 ⟨rfl, b8⟩
        have b9 := b7.trans (b8.mono b7.size)
        go_wp2_with fail
        exact ⟨⟨X, by omega, hXn', rfl, HS2, b9⟩, by simpa [nvV] using HMS.out⟩
end Go.Proofs.YtjminjliomffaaaDoor

/- certificate.Find, plain: which steps are added. No program in sight. -/
namespace Go.Proofs.YtjminjliomffaaaDoor.Num
/-- the divisors of a number less one by which it is to be proved -/
def facs (n : Nat) : List Nat := if probB (spl (n - 1)).2 = true then (spl (n - 1)).1 ++ [(spl (n - 1)).2] else (spl (n - 1)).1
def tinyB (n : Nat) : Bool := decide (n < 65536) && isB n
/-- is there a step for a number? where is it? -/
def knownB (S : List Stp) (n : Nat) : Bool := S.any fun s => nv s.1 == n
def idx (S : List Stp) (n : Nat) : Nat := S.findIdx fun s => nv s.1 == n
def tinyS (n : Nat) : Stp := (enc n, ⟨#[]⟩, [])
def stepS (S : List Stp) (n b : Nat) : Stp := (enc n, enc b, ((facs n).map fun f => ((idx S f : Nat) : Int)).mergeSort fun x y => decide (x ≤ y))
def enoughB (n : Nat) : Bool := decide (n < partF (facs n) (n - 1) 1 * partF (facs n) (n - 1) 1)
/-- numbers are added one after another; the error of the first that fails -/
inductive AddL : List Nat → List Stp → Int → List Stp → Prop
  | nil (S : List Stp) : AddL [] S 0 S
  | known {n r S e S'} : knownB S n = true → AddL r S e S' → AddL (n :: r) S e S'
  | tiny {n r S e S'} : knownB S n = false → tinyB n = true → AddL r (S ++ [tinyS n]) e S' → AddL (n :: r) S e S'
  | bad {n r S} : knownB S n = false → tinyB n = false → probB n = false → AddL (n :: r) S 12 S
  | few {n r S} : knownB S n = false → tinyB n = false → probB n = true → enoughB n = false → AddL (n :: r) S 9 S
  | sub {n r S e S1} : knownB S n = false → tinyB n = false → probB n = true → enoughB n = true → AddL (facs n) S e S1 → e ≠ 0 → AddL (n :: r) S 9 S1
  | none {n r S S1} : knownB S n = false → tinyB n = false → probB n = true → enoughB n = true → AddL (facs n) S 0 S1 → BaseR n (facs n) none → AddL (n :: r) S 9 S1
  | step {n r S S1 b e S'} : knownB S n = false → tinyB n = false → probB n = true → enoughB n = true → AddL (facs n) S 0 S1 → BaseR n (facs n) (some b) → AddL r (S1 ++ [stepS S1 n b]) e S' → AddL (n :: r) S e S'
theorem AddL.app {l r : List Nat} {S S1 S2 : List Stp} {e0 e : Int} (h : AddL l S e0 S1) : e0 = 0 → AddL r S1 e S2 → AddL (l ++ r) S e S2 := by
  induction h with
  | nil S => exact fun _ k => k
  | known h1 _ ih => exact fun h0 k => .known h1 (ih h0 k)
  | tiny h1 h2 _ ih => exact fun h0 k => .tiny h1 h2 (ih h0 k)
  | bad => intro h; cases h
  | few => intro h; cases h
  | sub => intro h; cases h
  | none => intro h; cases h
  | step h1 h2 h3 h4 h5 h6 _ _ ih => exact fun h0 k => .step h1 h2 h3 h4 h5 h6 (ih h0 k)
theorem AddL.more {n : Nat} {r : List Nat} {S S1 : List Stp} {e : Int} (h : AddL [n] S e S1) (he : e ≠ 0) : AddL (n :: r) S e S1 := by
  cases h with
  | known _ h => cases h; exact absurd rfl he
  | tiny _ _ h => cases h; exact absurd rfl he
  | bad h1 h2 h3 => exact .bad h1 h2 h3
  | few h1 h2 h3 h4 => exact .few h1 h2 h3 h4
  | sub h1 h2 h3 h4 h5 h6 => exact .sub h1 h2 h3 h4 h5 h6
  | none h1 h2 h3 h4 h5 h6 => exact .none h1 h2 h3 h4 h5 h6
  | step _ _ _ _ _ _ h => cases h; exact absurd rfl he
theorem AddL.pre {l : List Nat} {S S1 : List Stp} {e : Int} (h : AddL l S e S1) : S <+: S1 := by
  induction h with
  | nil S => exact List.prefix_refl _
  | known _ _ ih => exact ih
  | tiny _ _ _ ih => exact (List.prefix_append _ _).trans ih
  | bad => exact List.prefix_refl _
  | few => exact List.prefix_refl _
  | sub _ _ _ _ _ _ ih => exact ih
  | none _ _ _ _ _ _ ih => exact ih
  | step _ _ _ _ _ _ _ ih1 ih2 => exact ih1.trans ((List.prefix_append _ _).trans ih2)
theorem knownB_pre {S S1 : List Stp} {n : Nat} (h : S <+: S1) (k : knownB S n = true) : knownB S1 n = true := by
  obtain ⟨t, rfl⟩ := h
  unfold knownB at *
  rw [List.any_append, k]; rfl
theorem idx_pre {S S1 : List Stp} {n : Nat} (h : S <+: S1) (k : knownB S n = true) : idx S1 n = idx S n := by
  obtain ⟨t, rfl⟩ := h
  unfold idx
  rw [List.findIdx_append, if_pos]
  exact List.findIdx_lt_length.2 (by unfold knownB at k; exact List.any_eq_true.1 k)
theorem idx_lt {S : List Stp} {n : Nat} (k : knownB S n = true) : idx S n < S.length := List.findIdx_lt_length.2 (by unfold knownB at k; exact List.any_eq_true.1 k)
theorem idx_at {S : List Stp} {n : Nat} (k : knownB S n = true) : nv (S[idx S n]'(idx_lt k)).1 = n := by
  have := List.findIdx_getElem (w := idx_lt k)
  exact eq_of_beq this
theorem knownB_snoc {S : List Stp} {s : Stp} : knownB (S ++ [s]) (nv s.1) = true := by unfold knownB; rw [List.any_append]; simp
theorem nv_encC (n : Nat) : nv (enc n) = n := nv_enc n
theorem AddL.all {l : List Nat} {S S1 : List Stp} {e : Int} (h : AddL l S e S1) : e = 0 → ∀ f ∈ l, knownB S1 f = true := by
  induction h with
  | nil S => intro _ f hf; cases hf
  | @known n r S e S' h1 h2 ih =>
    intro h0 f hf
    rcases List.mem_cons.1 hf with rfl | hf
    · exact knownB_pre h2.pre h1
    · exact ih h0 f hf
  | @tiny n r S e S' h1 h2 h3 ih =>
    intro h0 f hf
    rcases List.mem_cons.1 hf with rfl | hf
    · refine knownB_pre h3.pre ?_
      have := knownB_snoc (S := S) (s := tinyS f)
      rwa [show nv (tinyS f).1 = f from nv_enc f] at this
    · exact ih h0 f hf
  | bad => intro h; cases h
  | few => intro h; cases h
  | sub => intro h; cases h
  | none => intro h; cases h
  | @step n r S S1 b e S' h1 h2 h3 h4 h5 h6 h7 ih1 ih2 =>
    intro h0 f hf
    rcases List.mem_cons.1 hf with rfl | hf
    · refine knownB_pre h7.pre ?_
      have := knownB_snoc (S := S1) (s := stepS S1 f b)
      rwa [show nv (stepS S1 f b).1 = f from nv_enc f] at this
    · exact ih2 h0 f hf
/-- a divisor taken out whole -/
theorem strip_not : ∀ (k f r o : Nat), 2 ≤ f → 1 ≤ r → r < 2 ^ k → ¬ f ∣ (strip k f r o).1
  | 0, f, r, o, _, h1, h2 => by simp at h2; omega
  | k + 1, f, r, o, hf, h1, h2 => by
    unfold strip
    split
    · next h =>
      have h3 : f * (r / f) = r := Nat.mul_div_cancel' (Nat.dvd_of_mod_eq_zero h)
      have h4 : 1 ≤ r / f := by
        rcases Nat.eq_zero_or_pos (r / f) with h5 | h5
        · rw [h5] at h3; omega
        · exact h5
      have h5 : 2 * (r / f) ≤ f * (r / f) := Nat.mul_le_mul_right _ hf
      rw [Nat.pow_succ] at h2
      exact strip_not k f _ _ hf h4 (by omega)
    · next h => exact fun hd => h (Nat.mod_eq_zero_of_dvd hd)
/-- what the division by all small numbers leaves -/
theorem splF_spec : ∀ (k p n : Nat) (out : List Nat), 2 ≤ p → 1 ≤ n → n < 2 ^ 1024 → (∀ d, 2 ≤ d → d < p → ¬ d ∣ n) →
    ∃ L r, splF k p n out = (out ++ L, r) ∧ (∀ q ∈ L, p ≤ q ∧ q < p + k ∧ IsP q ∧ q ∣ n) ∧ L.Pairwise (· < ·) ∧ lprod L * r ∣ n ∧ (∀ d, 2 ≤ d → d < p + k → ¬ d ∣ r) ∧ (∀ q, p ≤ q → q < p + k → IsP q → q ∣ n → q ∈ L)
  | 0, p, n, out, hp, hn, hb, hd => ⟨[], n, by simp [splF], by simp, List.Pairwise.nil, by simp [lprod], fun d h1 h2 => hd d h1 (by omega), fun q h1 h2 => by omega⟩
  | k + 1, p, n, out, hp, hn, hb, hd => by
    unfold splF
    split
    · next h1 =>
      subst h1
      exact ⟨[], 1, by simp, by simp, List.Pairwise.nil, by simp [lprod], fun d h1 h2 hd => by have := Nat.le_of_dvd (by omega) hd; omega, fun q h1 h2 h3 h4 => by have := Nat.le_of_dvd (by omega) h4; have := h3.1; omega⟩
    · next hne =>
      split
      · next h0 =>
        obtain ⟨v, e1, e2⟩ := strip_spec 1024 p n 1 (by omega)
        have hnot := strip_not 1024 p n 1 hp hn hb
        generalize (strip 1024 p n 1).1 = U at e2 hnot
        have hpd := Nat.dvd_of_mod_eq_zero h0
        have hv : v ≠ 0 := fun h => by subst h; simp at e2; exact hnot (e2 ▸ hpd)
        obtain ⟨v, rfl⟩ : ∃ v', v = v' + 1 := ⟨v - 1, by omega⟩
        have hUd : U ∣ n := ⟨p ^ (v + 1), by rw [e2, Nat.mul_comm]⟩
        have hU1 : 1 ≤ U := by
          rcases Nat.eq_zero_or_pos U with h | h
          · subst h; simp at e2; omega
          · exact h
        have hpP : IsP p := ⟨hp, fun d hdp => by
          rcases Nat.lt_or_ge d p with h | h
          · left
            have hd0 : d ≠ 0 := fun e => by subst e; have := Nat.eq_zero_of_zero_dvd hdp; omega
            rcases Nat.lt_or_ge d 2 with h2 | h2
            · omega
            · exact absurd (Nat.dvd_trans hdp hpd) (hd d h2 h)
          · right; exact Nat.le_antisymm (Nat.le_of_dvd (by omega) hdp) h⟩
        obtain ⟨L, r, f1, f2, f3, f4, f5, f6⟩ := splF_spec k (p + 1) U (out ++ [p]) (by omega) hU1 (Nat.lt_of_le_of_lt (Nat.le_of_dvd hn hUd) hb) (fun d h1 h2 hdU => by
          rcases Nat.lt_or_ge d p with h | h
          · exact hd d h1 h (Nat.dvd_trans hdU hUd)
          · have : d = p := by omega
            subst this; exact hnot hdU)
        refine ⟨p :: L, r, by rw [f1]; simp, ?_, ?_, ?_, fun d h1 h2 => f5 d h1 (by omega), ?_⟩
        · intro q hq
          rcases List.mem_cons.1 hq with rfl | hq
          · exact ⟨Nat.le_refl _, by omega, hpP, hpd⟩
          · obtain ⟨g1, g2, g3, g4⟩ := f2 q hq
            exact ⟨by omega, by omega, g3, Nat.dvd_trans g4 hUd⟩
        · refine List.pairwise_cons.2 ⟨fun q hq => ?_, f3⟩
          have := (f2 q hq).1; omega
        · show p * lprod L * r ∣ n
          rw [Nat.mul_assoc, e2, Nat.pow_succ, Nat.mul_comm (p ^ v) p, Nat.mul_assoc]
          exact Nat.mul_dvd_mul_left _ (Nat.dvd_trans f4 ⟨p ^ v, Nat.mul_comm _ _⟩)
        · intro q h1 h2 h3 h4
          rcases Nat.eq_or_lt_of_le h1 with rfl | h1
          · simp
          · refine List.mem_cons_of_mem _ (f6 q h1 (by omega) h3 ?_)
            rw [e2] at h4
            rcases h3.dvd_mul h4 with h5 | h5
            · have := h3.dvd_pow h5
              rcases hpP.2 q this with h6 | h6 <;> have := h3.1 <;> omega
            · exact h5
      · next h0 =>
        have hnp : ¬ p ∣ n := fun h => h0 (Nat.mod_eq_zero_of_dvd h)
        obtain ⟨L, r, f1, f2, f3, f4, f5, f6⟩ := splF_spec k (p + 1) n out (by omega) hn hb (fun d h1 h2 => by
          rcases Nat.lt_or_ge d p with h | h
          · exact hd d h1 h
          · rw [show d = p by omega]; exact hnp)
        refine ⟨L, r, f1, fun q hq => ?_, f3, f4, fun d h1 h2 => f5 d h1 (by omega), fun q h1 h2 h3 h4 => ?_⟩
        · obtain ⟨g1, g2, g3, g4⟩ := f2 q hq
          exact ⟨by omega, by omega, g3, g4⟩
        · rcases Nat.eq_or_lt_of_le h1 with rfl | h1
          · exact absurd h4 hnp
          · exact f6 q h1 (by omega) h3 h4
theorem spl_spec {n : Nat} (hn : 1 ≤ n) (hb : n < 2 ^ 1024) : (∀ q ∈ (spl n).1, 2 ≤ q ∧ q < 65536 ∧ IsP q ∧ q ∣ n) ∧ (spl n).1.Pairwise (· < ·) ∧ lprod (spl n).1 * (spl n).2 ∣ n ∧ (∀ d, 2 ≤ d → d < 65536 → ¬ d ∣ (spl n).2) ∧ (∀ q, q < 65536 → IsP q → q ∣ n → q ∈ (spl n).1) := by
  obtain ⟨L, r, h1, h2, h3, h4, h5, h6⟩ := splF_spec 65534 2 n [] (by omega) hn hb (fun d h1 h2 => by omega)
  unfold spl
  rw [h1, List.nil_append]
  exact ⟨h2, h3, h4, h5, fun q h hq hd => h6 q hq.1 (by omega) hq hd⟩
theorem probB_big {n : Nat} (h : probB n = true) : 65536 ≤ n := by
  unfold probB at h
  simp only [Bool.and_eq_true, decide_eq_true_eq] at h
  exact h.1
theorem probB_odd {n : Nat} (h : probB n = true) : n % 2 = 1 := by
  have hb := probB_big h
  unfold probB at h
  simp only [Bool.and_eq_true, List.all_eq_true] at h
  have h2 := h.2 2 (by decide)
  unfold strongV at h2
  rw [if_neg (by omega)] at h2
  by_cases hc : n < 2 ∨ n % 2 = 0
  · rw [if_pos hc] at h2; cases h2
  · omega
theorem facs_mem {n : Nat} (hn : 2 ≤ n) (hb : n < 2 ^ 1024) {f : Nat} (hf : f ∈ facs n) : 2 ≤ f ∧ f ∣ n - 1 ∧ f < n := by
  obtain ⟨h1, h2, h3, h4, h5⟩ := spl_spec (n := n - 1) (by omega) (by omega)
  have key : 2 ≤ f ∧ f ∣ n - 1 := by
    unfold facs at hf
    split at hf
    · next hp =>
      rcases List.mem_append.1 hf with hf | hf
      · exact ⟨(h1 f hf).1, (h1 f hf).2.2.2⟩
      · rw [List.mem_singleton.1 hf]
        exact ⟨by have := probB_big hp; omega, Nat.dvd_trans (Nat.dvd_mul_left _ _) h3⟩
    · exact ⟨(h1 f hf).1, (h1 f hf).2.2.2⟩
  exact ⟨key.1, key.2, by have := Nat.le_of_dvd (by omega) key.2; omega⟩
theorem facs_pw {n : Nat} (hn : 2 ≤ n) (hb : n < 2 ^ 1024) : (facs n).Pairwise (· < ·) := by
  obtain ⟨h1, h2, h3, h4, h5⟩ := spl_spec (n := n - 1) (by omega) (by omega)
  unfold facs
  split
  · next hp =>
    refine List.pairwise_append.2 ⟨h2, List.pairwise_singleton _ _, fun a ha b hb => ?_⟩
    rw [List.mem_singleton.1 hb]
    have := (h1 a ha).2.1
    have := probB_big hp
    omega
  · exact h2
/-- how many steps a number may bring -/
def wt (n : Nat) : Nat := if n < 65536 then 1 else 2 * Nat.log2 n
def wts : List Nat → Nat
  | [] => 0
  | f :: r => wt f + wts r
theorem wts_app : ∀ l r, wts (l ++ r) = wts l + wts r
  | [], r => by simp [wts]
  | f :: l, r => by simp [wts, wts_app l r]; omega
theorem wts_small : ∀ (l : List Nat), (∀ q ∈ l, q < 65536) → wts l = l.length
  | [], _ => rfl
  | f :: l, h => by
    have h1 := h f (by simp)
    simp only [wts, List.length_cons, wts_small l fun q hq => h q (by simp [hq])]
    unfold wt; rw [if_pos h1]; omega
theorem pow_lprod : ∀ (l : List Nat), (∀ q ∈ l, 2 ≤ q) → 2 ^ l.length ≤ lprod l
  | [], _ => by simp [lprod]
  | f :: l, h => by
    have h1 := h f (by simp)
    have h2 := pow_lprod l fun q hq => h q (by simp [hq])
    show 2 ^ (l.length + 1) ≤ f * lprod l
    rw [Nat.pow_succ, Nat.mul_comm]
    exact Nat.mul_le_mul h1 h2
theorem facs_wt {n : Nat} (hp : probB n = true) (hb : n < 2 ^ 1024) : wts (facs n) + 1 ≤ wt n := by
  have hbig := probB_big hp
  have hodd := probB_odd hp
  obtain ⟨h1, h2, h3, h4, h5⟩ := spl_spec (n := n - 1) (by omega) (by omega)
  have hmem : 2 ∈ (spl (n - 1)).1 := h5 2 (by omega) isP2 (Nat.dvd_of_mod_eq_zero (by omega))
  have hk : 1 ≤ (spl (n - 1)).1.length := List.length_pos_of_mem hmem
  have hw := wts_small (spl (n - 1)).1 (fun q hq => (h1 q hq).2.1)
  have hpl := pow_lprod (spl (n - 1)).1 (fun q hq => (h1 q hq).1)
  have hle := Nat.le_of_dvd (by omega) h3
  have hn : wt n = 2 * Nat.log2 n := by unfold wt; rw [if_neg (by omega)]
  rw [hn]
  unfold facs
  generalize (spl (n - 1)).1 = L at *
  have hlog : ∀ r, 1 ≤ r → lprod L * r ≤ n - 1 → Nat.log2 r + L.length ≤ Nat.log2 n := fun r hr h => by
    rw [Nat.le_log2 (by omega), Nat.pow_add, Nat.mul_comm]
    have e1 : 2 ^ Nat.log2 r ≤ r := Nat.log2_self_le (by omega)
    have := Nat.mul_le_mul hpl e1
    omega
  have h16 : 16 ≤ Nat.log2 n := by rw [Nat.le_log2 (by omega)]; omega
  split
  · next hr =>
    rw [wts_app]
    have hrb := probB_big hr
    have := hlog _ (by omega) hle
    have e2 : wts [(spl (n - 1)).2] = 2 * Nat.log2 (spl (n - 1)).2 := by
      simp only [wts, wt]; rw [if_neg (by omega)]; omega
    rw [e2]
    omega
  · next hr =>
    have hr1 : 1 ≤ (spl (n - 1)).2 := by
      rcases Nat.eq_zero_or_pos (spl (n - 1)).2 with h | h
      · have := h4 2 (by omega) (by omega); rw [h] at this; exact absurd (Nat.dvd_zero 2) this
      · exact h
    have := hlog _ hr1 hle
    omega
theorem AddL.size {l : List Nat} {S S1 : List Stp} {e : Int} (h : AddL l S e S1) : (∀ f ∈ l, f < 2 ^ 1024) → S1.length ≤ S.length + wts l := by
  induction h with
  | nil S => intro _; simp [wts]
  | known _ _ ih => intro hb; have := ih fun f hf => hb f (by simp [hf]); simp only [wts]; omega
  | @tiny n r S e S' h1 h2 h3 ih =>
    intro hb
    have := ih fun f hf => hb f (by simp [hf])
    rw [List.length_append] at this
    simp only [wts, List.length_singleton] at this ⊢
    have : 1 ≤ wt n := by
      unfold tinyB at h2
      simp only [Bool.and_eq_true, decide_eq_true_eq] at h2
      unfold wt; rw [if_pos h2.1]; omega
    omega
  | bad => intro _; omega
  | few => intro _; omega
  | @sub n r S e S1 h1 h2 h3 h4 h5 h6 ih =>
    intro hb
    have hn := hb n (by simp)
    have h7 := probB_big h3
    have := ih fun f hf => by have := (facs_mem (by omega) hn hf).2.2; omega
    have := facs_wt h3 hn
    simp only [wts]; omega
  | @none n r S S1 h1 h2 h3 h4 h5 h6 ih =>
    intro hb
    have hn := hb n (by simp)
    have h7 := probB_big h3
    have := ih fun f hf => by have := (facs_mem (by omega) hn hf).2.2; omega
    have := facs_wt h3 hn
    simp only [wts]; omega
  | @step n r S S1 b e S' h1 h2 h3 h4 h5 h6 h7 ih1 ih2 =>
    intro hb
    have hn := hb n (by simp)
    have h8 := probB_big h3
    have a1 := ih1 fun f hf => by have := (facs_mem (by omega) hn hf).2.2; omega
    have a2 := ih2 fun f hf => hb f (by simp [hf])
    have a3 := facs_wt h3 hn
    rw [List.length_append, List.length_singleton] at a2
    simp only [wts]; omega
theorem wts_take (l : List Nat) (k : Nat) (hk : k < l.length) : wts (l.take k) + wt l[k] ≤ wts l := by
  have h : l = l.take k ++ (l[k] :: l.drop (k + 1)) := by rw [← List.drop_eq_getElem_cons hk, List.take_append_drop]
  have e : wts l = wts (l.take k) + (wt l[k] + wts (l.drop (k + 1))) := by
    conv => lhs; rw [h, wts_app]
    rfl
  omega
theorem facs_len {n : Nat} (hp : probB n = true) (hb : n < 2 ^ 1024) : (facs n).length ≤ 2 * Nat.log2 n := by
  have h := facs_wt hp hb
  have hn : wt n = 2 * Nat.log2 n := by unfold wt; rw [if_neg (by have := probB_big hp; omega)]
  have : ∀ l : List Nat, (∀ f ∈ l, 2 ≤ f) → l.length ≤ wts l := by
    intro l hl
    induction l with
    | nil => simp [wts]
    | cons f r ih =>
      have := ih fun g hg => hl g (by simp [hg])
      have : 1 ≤ wt f := by
        unfold wt
        split
        · omega
        · have : 1 ≤ Nat.log2 f := by rw [Nat.le_log2 (by omega)]; omega
          omega
      simp only [wts, List.length_cons]; omega
  have := this (facs n) fun f hf => (facs_mem (by have := probB_big hp; omega) hb hf).1
  omega
theorem knownB_snoc' {S : List Stp} {s : Stp} {m : Nat} : knownB (S ++ [s]) m = (knownB S m || nv s.1 == m) := by unfold knownB; rw [List.any_append]; simp
/-- no greater number gets a step -/
theorem AddL.fresh {l : List Nat} {S S1 : List Stp} {e : Int} (h : AddL l S e S1) : (∀ f ∈ l, f < 2 ^ 1024) → ∀ m, (∀ f ∈ l, f < m) → knownB S1 m = knownB S m := by
  induction h with
  | nil S => intro _ m _; rfl
  | known _ _ ih => exact fun hb m hm => ih (fun f hf => hb f (by simp [hf])) m fun f hf => hm f (by simp [hf])
  | @tiny n r S e S' h1 h2 h3 ih =>
    intro hb m hm
    rw [ih (fun f hf => hb f (by simp [hf])) m fun f hf => hm f (by simp [hf]), knownB_snoc']
    have := hm n (by simp)
    rw [show nv (tinyS n).1 = n from nv_enc n, show (n == m) = false by rw [beq_eq_false_iff_ne]; omega, Bool.or_false]
  | bad => intro _ m _; rfl
  | few => intro _ m _; rfl
  | @sub n r S e S1 h1 h2 h3 h4 h5 h6 ih =>
    intro hb m hm
    have h7 := probB_big h3
    have := hm n (by simp)
    exact ih (fun f hf => by have := (facs_mem (by omega) (hb n (by simp)) hf).2.2; have := hb n (by simp); omega) m fun f hf => by have := (facs_mem (by omega) (hb n (by simp)) hf).2.2; omega
  | @none n r S S1 h1 h2 h3 h4 h5 h6 ih =>
    intro hb m hm
    have h7 := probB_big h3
    have := hm n (by simp)
    exact ih (fun f hf => by have := (facs_mem (by omega) (hb n (by simp)) hf).2.2; have := hb n (by simp); omega) m fun f hf => by have := (facs_mem (by omega) (hb n (by simp)) hf).2.2; omega
  | @step n r S S1 b e S' h1 h2 h3 h4 h5 h6 h7 ih1 ih2 =>
    intro hb m hm
    have h8 := probB_big h3
    have h9 := hm n (by simp)
    rw [ih2 (fun f hf => hb f (by simp [hf])) m fun f hf => hm f (by simp [hf]), knownB_snoc', show nv (stepS S1 n b).1 = n from nv_enc n, show (n == m) = false by rw [beq_eq_false_iff_ne]; omega, Bool.or_false]
    exact ih1 (fun f hf => by have := (facs_mem (by omega) (hb n (by simp)) hf).2.2; have := hb n (by simp); omega) m fun f hf => by have := (facs_mem (by omega) (hb n (by simp)) hf).2.2; omega
end Go.Proofs.YtjminjliomffaaaDoor.Num
