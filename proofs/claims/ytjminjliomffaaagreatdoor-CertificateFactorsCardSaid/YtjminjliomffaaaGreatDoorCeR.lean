/- The law CertificateFactors. -/
import Derived.Test.YtjminjliomffaaaGreatDoorCeN
namespace Go.Proofs.YtjminjliomffaaaGreatDoor
open Go.RowKit Num
set_option maxRecDepth 20000
set_option linter.unusedVariables false
/-- a product in the place of the number is not accepted -/
theorem fac_ck {S : List Stp} (hl : S.length ≤ 256) {k m : Nat} (hk : k < S.length) {a b : Nat} (ha : 2 ≤ a) (hb : 2 ≤ b) (hm : m = a * b) : ckC (S.set k (enc m, S[k].2)) = 12 ∨ ckC (S.set k (enc m, S[k].2)) = 3 := by
  obtain ⟨D, hD⟩ : ∃ D, S.set k (enc m, S[k].2) = D := ⟨_, rfl⟩
  rw [hD]
  have hDl : D.length = S.length := by rw [← hD, List.length_set]
  have hDk : D[k]'(by omega) = (enc m, S[k].2) := by subst hD; rw [List.getElem_set_self]
  unfold ckC
  by_cases hw : wfAll D = true
  · rw [if_pos hw, if_neg (by omega), if_neg (by omega)]
    by_cases hc : D.all (crB D) = true
    · have hp := ckC_prime hw hc k (by omega)
      rw [hDk] at hp
      have hp2 : IsP m := by have h2 : nv (enc m) = m := nv_enc m; rw [← h2]; exact hp
      exfalso
      rcases hp2.2 a ⟨b, hm⟩ with h | h
      · omega
      · rw [h] at hm
        have : m * 1 < m * b := Nat.mul_lt_mul_of_pos_left (by omega) (by omega)
        omega
    · rw [if_neg hc]; exact .inl rfl
  · rw [if_neg hw]; exact .inr rfl
/-- the number of a step of a copy is turned -/
theorem CS.setP {w : World} {g k : Nat} {R : List StR} (h : CS w (some ⟨g, 0, none⟩) R) (hk : k < R.length) (u : ByteArray) :
    CS (w.setCell ⟨g, k * 3, none⟩ (.string u)) (some ⟨g, 0, none⟩) (R.set k (u, R[k].2)) := by
  have hold : ∃ t, w.cell? ⟨g, k * 3, none⟩ = some (.string t) := by
    obtain ⟨b, off, e, h1, _⟩ := h k hk
    injection e with e; injection e with e1 e2 _
    subst e1 e2
    exact ⟨_, by rw [Nat.zero_add] at h1; exact h1⟩
  obtain ⟨t, ht⟩ := hold
  have kp : ∀ (p : Addr) (v : Value), w.cell? p = some v → p ≠ ⟨g, k * 3, none⟩ → (w.setCell ⟨g, k * 3, none⟩ (.string u)).cell? p = some v := fun p v hv hne => by
    rw [World.cell?_setCell_other (h := fun e => hne e.symm)]; exact hv
  have kf : ∀ {a : Option Addr} {F : List Int}, FS w a F → FS (w.setCell ⟨g, k * 3, none⟩ (.string u)) a F := fun hF j hj => by
    obtain ⟨b, off, h1, h2⟩ := hF j hj
    exact ⟨b, off, h1, kp _ _ h2 fun e => by rw [e, ht] at h2; cases h2⟩
  intro i hi
  have hi' : i < R.length := by simpa using hi
  obtain ⟨b, off, e, h1, h2, h3, h4⟩ := h i hi'
  injection e with e; injection e with e1 e2 _
  subst e1 e2
  refine ⟨g, 0, rfl, ?_⟩
  by_cases hik : i = k
  · subst hik
    rw [List.getElem_set_self]
    refine ⟨?_, kp _ _ h2 (by intro e; injection e with _ e; omega), kp _ _ h3 (by intro e; injection e with _ e; omega), kf h4⟩
    rw [Nat.zero_add]
    exact World.cell?_setCell_same' _ _ _ (by rw [ht]; rfl)
  · rw [List.getElem_set_ne (fun e => hik e.symm)]
    exact ⟨kp _ _ h1 (by intro e; injection e with _ e; omega), kp _ _ h2 (by intro e; injection e with _ e; omega), kp _ _ h3 (by intro e; injection e with _ e; omega), kf h4⟩
theorem law7product_any (s t : ByteArray) (a b : Nat) (w : World) (hs : IsN s a) (ht : IsN t b) (h : blen (a * b) ≤ 128) :
    Calls Tryz.prog 12 #[.string s, .string t] w fun e w' => e = .returned (.tuple #[.string (enc (a * b)), .int .i64 0]) ∧ Below w.heap.size w w' := by
  have HM := (fun w => refMul_any s t a b w hs ht)
  rw [fitS_ok h, fitE_ok h] at HM
  have HM := Lib.hid HM
  clear hs ht h
  go_enter Tryz.func12, Tryz.ntmps12
  go_wp2_with fail
  refine (HM.out _).mono ?_; rintro e w1 ⟨rfl, b1⟩
  go_wp2_with fail
  go_ret2
  exact ⟨rfl, b1⟩
set_option maxHeartbeats 16000000 in
theorem factors_walk (s : ByteArray) (w : World) (hT : Tab w) (hs : s.size ≤ maxLen) :
    Calls Tryz.prog 4 #[.string s] w fun e w' => e = .returned (.bool true) ∧ Below w.heap.size w w' := by
  obtain ⟨i0, hi, hz0, hz1, hz2⟩ := info_parts info_stepC
  have HAw := Lib.hid (fun w h => awakeC w h)
  have HF := Lib.hid (fun w h => ceFind_any s w h)
  obtain ⟨sz, hsz⟩ : ∃ n, s.size = n := ⟨_, rfl⟩
  rw [hsz] at hs
  unfold maxLen at hs
  by_cases h8 : 8 < sz
  · have d1 : decide ((8 : Int) < (sz : Int)) = true := decide_eq_true (by omega)
    go_enter Tryz.func4, Tryz.ntmps4
    go_wp2_with fail
    refine (HAw.out _ hT).mono ?_; rintro e w1 ⟨rfl, b1⟩
    go_wp2_with fail
    go_ret
    exact ⟨rfl, b1⟩
  · have d1 : decide ((8 : Int) < (sz : Int)) = false := decide_eq_false (by omega)
    have d2 : ¬ (8 : Int) < (sz : Int) := by omega
    have HSZ := Lib.hid hsz
    go_enter Tryz.func4, Tryz.ntmps4
    go_wp2_with fail
    refine (HF.out _ hT).mono ?_
    rintro e w1 ⟨⟨a, r, c, R, E, rfl, hr, hCS, hr5, hfl, hFR⟩, b1⟩
    have hT1 := hT.below b1
    have hS := CtB.new w1 (.slice a r c)
    have q1 := (Below.refl _ w1).alloc (Nat.le_refl _) (.cells #[.slice a r c] 24)
    have b2 := b1.trans (q1.mono b1.size)
    have HCS := Lib.hid (hCS.below q1 (Nat.le_refl _))
    have HT1 := Lib.hid (hT1.below q1)
    have HFR := Lib.hid (And.intro hFR (And.intro hr (And.intro hr5 hfl)))
    clear hFR hCS hT1 q1 hr hfl hsz d1 d2
    by_cases hE : E = 0
    · subst hE
      by_cases hr2 : r < 2
      · have d1 : decide ((r : Int) < 2) = true := decide_eq_true (by omega)
        go_wp2_with fail
        generalize World.alloc _ _ = w3 at hS b2 HT1 ⊢
        refine (HAw.out _ HT1.out).mono ?_; rintro e w4 ⟨rfl, b4⟩
        have b5 := b2.trans (b4.mono b2.size)
        go_wp2_with fail
        go_ret
        exact ⟨rfl, b5⟩
      · have d1 : decide ((r : Int) < 2) = false := decide_eq_false (by omega)
        have d2 : ¬ (r : Int) < 2 := by omega
        have hA : validB s = true ∧ AddL [nv s] [] 0 (R.map stp) := by
          rcases HFR.out.1 with ⟨_, h, _⟩ | ⟨_, h, _⟩ | ⟨h1, _, h2⟩
          · cases h
          · exact absurd rfl h
          · exact ⟨h1, h2⟩
        have hN := isN_of hA.1
        have hn : nv s < 18446744073709551616 := by
          have h1 : blen (nv s) ≤ 8 := by rw [← hN.size, HSZ.out]; omega
          have := (blen_le_iff (nv s) 8).1 h1
          have e : (256 : Nat) ^ 8 = 18446744073709551616 := by decide
          omega
        have hck := find_ck hn hA.2
        have hlen := ckC_len hck
        have hwf := (ckC_zero hck).1
        have hok := ok_of_wf hwf HFR.out.2.2.2 (by rw [HFR.out.2.1]; exact HFR.out.2.2.1)
        obtain ⟨k, hk⟩ : ∃ k, r - 1 = k := ⟨_, rfl⟩
        have hkr : k < r := by omega
        have hk1 : 1 ≤ k := by omega
        have hkR : k < R.length := by rw [HFR.out.2.1]; exact hkr
        have h0R : 0 < R.length := by omega
        have o1 : IntKind.i64.wrap ((r : Int) - 1) = (k : Int) := by rw [wraps_i64 _ (by omega) (by omega)]; omega
        obtain ⟨b, off, rfl, x0, _, _, _⟩ := HCS.out 0 h0R
        obtain ⟨p1, p2⟩ := wfParts hwf _ (List.getElem_mem h0R)
        have hp0 : nv R[0].1 ≤ nv s := by
          have h2 : nv s < 2 ^ 1024 := Nat.lt_trans hn (by decide +kernel)
          have := found_le hA.2 h2 (i := 0) (by simpa using h0R)
          simpa [stp] using this
        have hn2 : 2 ≤ nv s := by omega
        have hmul : blen (nv s * nv R[0].1) ≤ 16 := by
          rw [blen_le_iff]
          have h1 : nv s * nv R[0].1 ≤ 18446744073709551615 * 18446744073709551615 := Nat.mul_le_mul (by omega) (by omega)
          have e : (256 : Nat) ^ 16 = 340282366920938463463374607431768211456 := by decide
          omega
        have HPd := Lib.hid (fun w => law7product_any s R[0].1 (nv s) (nv R[0].1) w hN p1 (by omega))
        rw [List.length_map, HFR.out.2.1] at hlen
        have hfk : ∀ m, m = nv s * nv R[0].1 → ckC ((R.map stp).set k (enc m, ((R.map stp)[k]'(by simpa using hkR)).2)) = 12 ∨ ckC ((R.map stp).set k (enc m, ((R.map stp)[k]'(by simpa using hkR)).2)) = 3 := fun m hm => fac_ck (by rw [List.length_map, HFR.out.2.1]; exact hlen.2) (by simpa using hkR) hn2 p2 hm
        have r3 : r ≤ 256 := hlen.2
        have HOK := Lib.hid hok
        have hoy := hok _ (List.getElem_mem hkR)
        have hst : (R.map stp)[k]'(by simpa using hkR) = stp R[k] := by simp
        obtain ⟨PR, hPR⟩ : ∃ PR, nv s * nv R[0].1 = PR := ⟨_, rfl⟩
        obtain ⟨P0, hP0⟩ : ∃ P0, R[0].1 = P0 := ⟨_, rfl⟩
        have hfk2 := hfk PR hPR.symm
        rw [hst] at hfk2
        obtain ⟨y, hy⟩ : ∃ y, R[k] = y := ⟨_, rfl⟩
        have hFK : ckC ((R.set k (enc PR, y.2)).map stp) = 12 ∨ ckC ((R.set k (enc PR, y.2)).map stp) = 3 := by
          rw [List.map_set]
          rw [hy] at hfk2
          exact hfk2
        have HCy := Lib.hid (fun (h : k < R.length) => hy)
        rw [hy] at hoy
        rw [hP0] at x0 HPd
        rw [hP0] at hPR
        rw [hPR] at HPd
        have hPs : blen PR ≤ 16 := by rw [← hPR, ← hP0]; exact hmul
        have HP0 := Lib.hid (fun (h : 0 < R.length) => hP0)
        rw [Nat.zero_mul, Nat.add_zero] at x0
        clear hA hN hn hck hwf hok hk hlen p1 p2 hp0 hn2 hfk hfk2 hst hy hPR hP0
        obtain ⟨w3, hw3⟩ : ∃ w3, w1.alloc (.cells #[.slice (some ⟨b, off, none⟩) r c] 24) = w3 := ⟨_, rfl⟩
        have HW3 := Lib.hid hw3
        rw [hw3] at hS b2 HCS HT1 x0
        have p1 := (Below.refl _ w3).alloc (Nat.le_refl _) (.cells #[] 38)
        have HCC := Lib.hid (cs_cells (HCS.out.below p1 (Nat.le_refl _)))
        have HRL := Lib.hid HFR.out.2.1
        have c0 := hS.c0
        have c1 := cellB_keep c0 p1
        go_wp2_with (first
          | (at_builtin; refine wpList_append_own _ rfl (.tmp 30) (.tmp 32) 22 rfl w3.heap.size 38 i0 (.agg #[.string ⟨#[]⟩, .string ⟨#[]⟩, .slice none 0 0]) 3 56 Tryz.underlying22 hi hz0 hz1 hz2 rfl (by decide) (.slice (some ⟨w3.heap.size, 0, none⟩) 0 0) 0 [] rfl (own_empty w3) ⟨b, off, none⟩ r c (cellsS R) rfl (by rw [cellsS_len, HRL.out]) HCC.out (cellsS_one R) (by unfold maxLen; omega) (by omega) (by simp) ?_))
        intro v' w5 hown5 hgrow5 hnn
        obtain ⟨g, c5, rfl, hg1, cur, hg2⟩ : ∃ g c5, v' = .slice (some ⟨g, 0, none⟩) r c5 ∧ w3.heap.size ≤ g ∧ ∃ cur, w5.heap[g]? = some (.cells cur 38 (0, 0)) := by
          rcases hown5.2 with ⟨e, h0⟩ | ⟨g, cap, cur, e, h1, h2, _⟩
          · omega
          · exact ⟨g, cap, e, h1, cur, h2⟩
        have p2 : Below w3.heap.size w3 w5 := p1.grown hgrow5 (by simp) (fun k e => by have e2 : some w3.heap.size = some k := e; injection e2 with e2; omega)
        have hcp : CS w5 (some ⟨g, 0, none⟩) R := HCS.out.copy (by rw [HRL.out]; exact hown5) (cells_keep p2 (Nat.le_refl _))
        have p3 := (Below.refl _ w5).alloc (Nat.le_refl _) (.cells #[.slice (some ⟨g, 0, none⟩) r c5] 24)
        have b6 : Below w.heap.size w (w5.alloc (.cells #[.slice (some ⟨g, 0, none⟩) r c5] 24)) := (b2.trans (p2.mono b2.size)).trans (p3.mono (b2.trans (p2.mono b2.size)).size)
        have hcs6 := hcp.below p3 (Nat.le_refl _)
        have hct6 := CtB.new w5 (.slice (some ⟨g, 0, none⟩) r c5)
        have hcu6 : ∃ cur, (w5.alloc (.cells #[.slice (some ⟨g, 0, none⟩) r c5] 24)).heap[g]? = some (.cells cur 38 (0, 0)) := ⟨cur, (p3.block g (Array.getElem?_eq_some_iff.1 hg2).1).trans hg2⟩
        have ht6 := (HT1.out.below p2).below p3
        have xk : (w5.alloc (.cells #[.slice (some ⟨g, 0, none⟩) r c5] 24)).cell? ⟨g, k * 3, none⟩ = some (.string R[k].1) := by
          obtain ⟨b', off', e', h1, _⟩ := hcs6 k hkR
          injection e' with e'; injection e' with e1 e2 _
          subst e1 e2
          rw [Nat.zero_add] at h1
          exact h1
        have xz : (w5.alloc (.cells #[.slice (some ⟨g, 0, none⟩) r c5] 24)).cell? ⟨g, 0, none⟩ = some (.string P0) := by
          obtain ⟨b', off', e', h1, _⟩ := hcs6 0 h0R
          injection e' with e'; injection e' with e1 e2 _
          subst e1 e2
          rw [HP0.out h0R] at h1
          exact h1
        have fk : (w5.alloc (.cells #[.slice (some ⟨g, 0, none⟩) r c5] 24)).frozen? ⟨g, k * 3, none⟩ = false := by
          obtain ⟨cur, hc⟩ := hcu6
          exact Lib.frozen_of_heap hc _
        have hgq : w5.heap.size ≠ g := fun e => by
          obtain ⟨cur, hc⟩ := hcu6
          have := hct6
          unfold CtB at this
          rw [e, hc] at this; cases this
        have HG := Lib.hid hg1
        clear hown5 hgrow5 hnn hg2 hcp p1 p2 p3 c1 c0 HCC hg1
        go_wp2_with fail
        generalize w5.heap.size = q at hct6 hgq ⊢
        generalize World.alloc _ _ = w6 at hcs6 hct6 hcu6 ht6 xk xz fk b6 ⊢
        have c0 := hct6.c0
        have hW8 : ∀ (W : World) (u : Value), (W.cell? ⟨q, 0, none⟩ = some (.slice (some ⟨g, 0, none⟩) r c5) ∧ W.cell? ⟨g, 0, none⟩ = some (.string P0)) → ((W.setCell ⟨g, k * 3, none⟩ u).cell? ⟨q, 0, none⟩ = some (.slice (some ⟨g, 0, none⟩) r c5) ∧ (W.setCell ⟨g, k * 3, none⟩ u).cell? ⟨g, 0, none⟩ = some (.string P0)) := fun W u h => by
          rw [World.cell?_setCell_other (h := fun e => hgq (by injection e with e _; exact e.symm)), World.cell?_setCell_other (h := fun e => by injection e with _ e; omega)]
          exact h
        have k0 : (0 : Int) ≤ (k : Int) := by omega
        have k1 : (k : Int) < (r : Int) := by omega
        have k2 : (0 : Int) < (r : Int) := by omega
-- {{B
        refine wp_region_held_drew (S := (fun w' => w'.cell? ⟨q, 0, none⟩ = some (.slice (some ⟨g, 0, none⟩) r c5) ∧ w'.cell? ⟨g, 0, none⟩ = some (.string P0))) (by kernel_rfl) ⟨c0, xz⟩ (fun hS0 => ?_)
        refine wpAnyH_take (i := 0) (oi := { dst := some 36, op := _, type := _, pos := _, after := _, guard := _ }) (v := .pointer (some (⟨q, 0, none⟩ : Addr))) rfl (by kernel_rfl) (by kernel_rfl) (by kernel_rfl) (fun _ _ _ h => h) (Or.inl ⟨by rfl, fun w' hSw => (by (try dsimp only at hSw); go_simp)⟩) (by assumption) ?_
        try simp only [Act.put, List.setIfInBounds_toArray, List.set_cons_zero, List.set_cons_succ]
        refine wpAnyH_take (i := 1) (oi := { dst := some 37, op := _, type := _, pos := _, after := _, guard := _ }) (v := .slice (some ⟨g, 0, none⟩) r c5) rfl (by kernel_rfl) (by kernel_rfl) (by kernel_rfl) (fun _ _ _ h => h) (Or.inl ⟨by rfl, fun w' hSw => (by (try dsimp only at hSw); obtain ⟨f0, f1⟩ := hSw; go_simp)⟩) (by assumption) ?_
        try simp only [Act.put, List.setIfInBounds_toArray, List.set_cons_zero, List.set_cons_succ]
        refine wpAnyH_take (i := 2) (oi := { dst := some 38, op := _, type := _, pos := _, after := _, guard := _ }) (v := .int .i64 (k : Int)) rfl (by kernel_rfl) (by kernel_rfl) (by kernel_rfl) (fun _ _ _ h => h) (Or.inl ⟨by rfl, fun w' hSw => (by (try dsimp only at hSw); go_simp)⟩) (by assumption) ?_
        try simp only [Act.put, List.setIfInBounds_toArray, List.set_cons_zero, List.set_cons_succ]
        refine wpAnyH_take (i := 3) (oi := { dst := some 39, op := _, type := _, pos := _, after := _, guard := _ }) (v := .string s) rfl (by kernel_rfl) (by kernel_rfl) (by kernel_rfl) (fun _ _ _ h => h) (Or.inl ⟨by rfl, fun w' hSw => (by (try dsimp only at hSw); go_simp)⟩) (by assumption) ?_
        try simp only [Act.put, List.setIfInBounds_toArray, List.set_cons_zero, List.set_cons_succ]
        refine wpAnyH_take (i := 4) (oi := { dst := some 40, op := _, type := _, pos := _, after := _, guard := _ }) (v := .pointer (some (⟨q, 0, none⟩ : Addr))) rfl (by kernel_rfl) (by kernel_rfl) (by kernel_rfl) (fun _ _ _ h => h) (Or.inl ⟨by rfl, fun w' hSw => (by (try dsimp only at hSw); go_simp)⟩) (by assumption) ?_
        try simp only [Act.put, List.setIfInBounds_toArray, List.set_cons_zero, List.set_cons_succ]
        refine wpAnyH_take (i := 5) (oi := { dst := some 41, op := _, type := _, pos := _, after := _, guard := _ }) (v := .slice (some ⟨g, 0, none⟩) r c5) rfl (by kernel_rfl) (by kernel_rfl) (by kernel_rfl) (fun _ _ _ h => h) (Or.inl ⟨by rfl, fun w' hSw => (by (try dsimp only at hSw); obtain ⟨f0, f1⟩ := hSw; go_simp)⟩) (by assumption) ?_
        try simp only [Act.put, List.setIfInBounds_toArray, List.set_cons_zero, List.set_cons_succ]
        refine wpAnyH_take (i := 6) (oi := { dst := some 42, op := _, type := _, pos := _, after := _, guard := _ }) (v := .pointer (some (⟨g, 0, none⟩ : Addr))) rfl (by kernel_rfl) (by kernel_rfl) (by kernel_rfl) (fun _ _ _ h => h) (Or.inl ⟨by rfl, fun w' hSw => (by (try dsimp only at hSw); go_simp; try (intro h; omega))⟩) (by assumption) ?_
        try simp only [Act.put, List.setIfInBounds_toArray, List.set_cons_zero, List.set_cons_succ]
        refine wpAnyH_take (i := 7) (oi := { dst := some 43, op := _, type := _, pos := _, after := _, guard := _ }) (v := .pointer (some (⟨g, 0, none⟩ : Addr))) rfl (by kernel_rfl) (by kernel_rfl) (by kernel_rfl) (fun _ _ _ h => h) (Or.inl ⟨by rfl, fun w' hSw => (by (try dsimp only at hSw); go_simp; try (intro h; omega))⟩) (by assumption) ?_
        try simp only [Act.put, List.setIfInBounds_toArray, List.set_cons_zero, List.set_cons_succ]
        refine wpAnyH_take (i := 8) (oi := { dst := some 44, op := _, type := _, pos := _, after := _, guard := _ }) (v := .string P0) rfl (by kernel_rfl) (by kernel_rfl) (by kernel_rfl) (fun _ _ _ h => h) (Or.inl ⟨by rfl, fun w' hSw => (by (try dsimp only at hSw); obtain ⟨f0, f1⟩ := hSw; go_simp)⟩) (by assumption) ?_
        try simp only [Act.put, List.setIfInBounds_toArray, List.set_cons_zero, List.set_cons_succ]
        refine wpAnyH_ready (rs := [9]) (by kernel_rfl) (by simp) ?_
        refine AllReadyH.cons rfl (fun K hK => ?_) AllReadyH.nil
        rw [if_pos (by rfl)]
        go_simp
        go_at_call 12
        refine (HPd.out _).mono ?_; rintro e w8 ⟨rfl, b8⟩
        try go_simp
        have b8 : Below w6.heap.size w6 w8 := (Below.refl _ w6).drew.trans b8
        refine hK.out _ _ ⟨cellB_keep c0 b8, cellB_keep xz b8⟩ (fun hS1 => ?_)
        clear hK hS0
        try simp only [Act.put, List.setIfInBounds_toArray, List.set_cons_zero, List.set_cons_succ]
        refine wpAnyH_take (i := 10) (oi := { dst := some 35, op := _, type := _, pos := _, after := _, guard := _ }) (v := .tuple #[.string (enc PR), .int .i64 0]) rfl (by kernel_rfl) (by kernel_rfl) (by kernel_rfl) (fun _ _ _ h => h) (Or.inl ⟨by rfl, fun w' hSw => (by (try dsimp only at hSw); go_simp)⟩) (by assumption) ?_
        try simp only [Act.put, List.setIfInBounds_toArray, List.set_cons_zero, List.set_cons_succ]
        refine wpAnyH_take (i := 11) (oi := { dst := some 46, op := _, type := _, pos := _, after := _, guard := _ }) (v := .string (enc PR)) rfl (by kernel_rfl) (by kernel_rfl) (by kernel_rfl) (fun _ _ _ h => h) (Or.inl ⟨by rfl, fun w' hSw => (by (try dsimp only at hSw); go_simp)⟩) (by assumption) ?_
        try simp only [Act.put, List.setIfInBounds_toArray, List.set_cons_zero, List.set_cons_succ]
        refine wpAnyH_take (i := 12) (oi := { dst := some 47, op := _, type := _, pos := _, after := _, guard := _ }) (v := .int .i64 0) rfl (by kernel_rfl) (by kernel_rfl) (by kernel_rfl) (fun _ _ _ h => h) (Or.inl ⟨by rfl, fun w' hSw => (by (try dsimp only at hSw); go_simp)⟩) (by assumption) ?_
        try simp only [Act.put, List.setIfInBounds_toArray, List.set_cons_zero, List.set_cons_succ]
        refine wpAnyH_take (i := 13) (oi := { dst := some 48, op := _, type := _, pos := _, after := _, guard := _ }) (v := .pointer (some (⟨g, k * 3, none⟩ : Addr))) rfl (by kernel_rfl) (by kernel_rfl) (by kernel_rfl) (fun _ _ _ h => h) (Or.inl ⟨by rfl, fun w' hSw => (by (try dsimp only at hSw); go_simp)⟩) (by assumption) ?_
        try simp only [Act.put, List.setIfInBounds_toArray, List.set_cons_zero, List.set_cons_succ]
        refine wpAnyH_take (i := 14) (oi := { dst := some 49, op := _, type := _, pos := _, after := _, guard := _ }) (v := .pointer (some (⟨g, k * 3, none⟩ : Addr))) rfl (by kernel_rfl) (by kernel_rfl) (by kernel_rfl) (fun _ _ _ h => h) (Or.inl ⟨by rfl, fun w' hSw => (by (try dsimp only at hSw); go_simp)⟩) (by assumption) ?_
        try simp only [Act.put, List.setIfInBounds_toArray, List.set_cons_zero, List.set_cons_succ]
        have f := cellB_keep xk b8
        have fz := (b8.frozen (p := ⟨g, k * 3, none⟩) (World.block_lt_of_cell? _ _ xk)).trans fk
        have c8 := cellB_keep c0 b8
        have z8 := cellB_keep xz b8
        refine wpAnyH_ready (rs := [15]) (by kernel_rfl) (by simp) ?_
        refine AllReadyH.cons rfl (fun K hK => ?_) AllReadyH.nil
        rw [if_pos (by rfl)]
        go_simp
        refine hK.out _ _ (hW8 _ _ ⟨c8, z8⟩) (fun hS2 => ?_)
        clear hK hS1
        try simp only [Act.put, List.setIfInBounds_toArray, List.set_cons_zero, List.set_cons_succ]
        refine wpAnyH_done (by kernel_rfl) ?_ _
-- }}B
        have hcs9 : CS (w8.setCell ⟨g, k * 3, none⟩ (.string (enc PR))) (some ⟨g, 0, none⟩) (R.set k (enc PR, R[k].2)) := (hcs6.below b8 (Nat.le_refl _)).setP hkR (enc PR)
        rw [HCy.out hkR] at hcs9
        have hgl : w.heap.size ≤ g := Nat.le_trans b2.size HG.out
        have b9 : Below w.heap.size w (w8.setCell ⟨g, k * 3, none⟩ (.string (enc PR))) := (b6.trans (b8.mono b6.size)).setCell (p := ⟨g, k * 3, none⟩) hgl _
        have hct9 : CtB (w8.setCell ⟨g, k * 3, none⟩ (.string (enc PR))) q (.slice (some ⟨g, 0, none⟩) r c5) := (Below.heap_setCell _ _ _ _ hgq).trans (hct6.below b8 hct6.lt)
        have hg0 : 0 < w.heap.size := World.block_lt_of_cell? w _ (hT 0 (by omega))
        have ht9 : Tab (w8.setCell ⟨g, k * 3, none⟩ (.string (enc PR))) := tab_belowB hT b9 hg0
        have c9 := hct9.c0
        have hok9 : ∀ x ∈ R.set k (enc PR, y.2), x.ok := fun x hx => by
          rcases List.mem_or_eq_of_mem_set hx with h | h
          · exact HOK.out x h
          · subst h
            refine ⟨?_, hoy.2.1, hoy.2.2.1, hoy.2.2.2⟩
            show (enc PR).size ≤ maxLen
            rw [size_enc]; unfold maxLen; omega
        have hrl9 : (R.set k (enc PR, y.2)).length = r := by rw [List.length_set, HRL.out]
        have HCk9 := (fun w hT h => ceCheck_any (some ⟨g, 0, none⟩) r c5 (R.set k (enc PR, y.2)) w hT h hrl9 (by rw [hrl9]; unfold maxLen; omega) hok9)
        have H9 := Lib.hid (And.intro hcs9 ht9)
        clear hcs9 hct9 ht9 hok9 hrl9 hW8 c8 f fz xk fk c0 xz z8
        obtain ⟨F, hF⟩ : ∃ F, ckC ((R.set k (enc PR, y.2)).map stp) = F := ⟨_, rfl⟩
        rw [hF] at hFK HCk9
        have HCk9 := Lib.hid HCk9
        clear hF
        rcases hFK with rfl | rfl
        all_goals
          go_wp2_with fail
          generalize World.setCell _ _ _ = w9 at H9 b9 c9 ⊢
          refine (HCk9.out _ H9.out.2 H9.out.1).mono ?_; rintro e w10 ⟨rfl, b10⟩
          have b11 := b9.trans (b10.mono b9.size)
          go_wp2_with fail
          refine (HAw.out _ (H9.out.2.below b10)).mono ?_; rintro e w11 ⟨rfl, b12⟩
          have b13 := b11.trans (b12.mono b11.size)
          go_wp2_with fail
          go_ret
          exact ⟨rfl, b13⟩
    · have hE2 : (E == 0) = false := by rw [beq_eq_false_iff_ne]; exact hE
      have hE3 : (E != 0) = true := by simp [bne, hE2]
      go_wp2_with fail
      generalize World.alloc _ _ = w3 at hS b2 HT1 ⊢
      refine (HAw.out _ HT1.out).mono ?_; rintro e w4 ⟨rfl, b4⟩
      have b5 := b2.trans (b4.mono b2.size)
      go_wp2_with fail
      go_ret
      exact ⟨rfl, b5⟩
end Go.Proofs.YtjminjliomffaaaGreatDoor
