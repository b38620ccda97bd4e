/- The law CertificateBases. -/
import Derived.Test.YtjminjliomffaaaDoorCeN
namespace Go.Proofs.YtjminjliomffaaaDoor
open Go.RowKit Num
set_option maxRecDepth 20000
set_option linter.unusedVariables false
theorem step_data {n : Nat} {R : List StR} (hA : AddL [n] [] 0 (R.map stp)) (hn : n < 18446744073709551616) {k : Nat} (hk : k < R.length) : (R[k].2.2.2.2 = [] ∧ R[k].2.1.size = 0) ∨
    (R[k].2.2.2.2 ≠ [] ∧ ∃ b, R[k].2.1 = enc b ∧ 2 ≤ b ∧ b < 18446744073709551616 ∧ ∀ a, 2 ≤ a → a < b → ckC ((R.map stp).set k (R[k].1, enc a, R[k].2.2.2.2)) = 12) := by
  have hb : n < 2 ^ 1024 := Nat.lt_trans hn (by decide +kernel)
  have g := hA.good (fun f hf => by rw [List.mem_singleton.1 hf]; exact hb) good_nil
  have hlen := ckC_len (find_ck hn hA)
  have hkm : k < (R.map stp).length := by simpa using hk
  have gk := g.at' k hkm
  have hle := found_le hA hb hkm
  have hst : (R.map stp)[k] = (R[k].1, R[k].2.1, R[k].2.2.2.2) := by simp [stp]
  by_cases hF : R[k].2.2.2.2 = []
  · refine .inl ⟨hF, ?_⟩
    have := gk.wf
    rw [hst] at this
    unfold wfB at this
    simp only [Bool.and_eq_true] at this
    have h3 := this.2.2
    rw [if_pos hF] at h3
    exact of_decide_eq_true h3
  · refine .inr ⟨hF, ?_⟩
    have hF2 : (R.map stp)[k].2.2 ≠ [] := by rw [hst]; exact hF
    obtain ⟨b, e1, b1, b2, _⟩ := gk.base hF2
    rw [hst] at e1
    refine ⟨b, e1, b1, by omega, fun a h1 h2 => ?_⟩
    have := base_ck g hlen.2 hkm hF2 (by rw [hst]; exact e1) h1 h2
    rw [hst] at this
    exact this
theorem keepD {w0 w1 w2 : World} {B g o : Nat} {v1 v2 : Value} (h : w1.cell? ⟨B, 0, none⟩ = some v1 ∧ w1.cell? ⟨g, o, none⟩ = some v2 ∧ w1.frozen? ⟨g, o, none⟩ = false ∧ Below w0.heap.size w0 w1) (bn : Below w1.heap.size w1 w2) :
    w2.cell? ⟨B, 0, none⟩ = some v1 ∧ w2.cell? ⟨g, o, none⟩ = some v2 ∧ w2.frozen? ⟨g, o, none⟩ = false ∧ Below w0.heap.size w0 w2 :=
  ⟨cellB_keep h.1 bn, cellB_keep h.2.1 bn, (bn.frozen (p := ⟨g, o, none⟩) (World.block_lt_of_cell? w1 _ h.2.1)).trans h.2.2.1, h.2.2.2.trans (bn.mono h.2.2.2.size)⟩
set_option maxHeartbeats 16000000 in
theorem bases_walk (s : ByteArray) (m : Nat) (hm : m ≤ 255) (w : World) (hT : Tab w) (hs : s.size ≤ maxLen) :
    Calls Tryd.prog 7 #[.string s, .int .u8 (m : Int)] w fun e w' => e = .returned (.bool true) ∧ Below w.heap.size w w' := by
  obtain ⟨i0, hi, hz0, hz1, hz2⟩ := info_parts info_stepC
  have HAw := Lib.hid (fun w h => awakeC w h)
  have HF := Lib.hid (fun w h => ceFind_any s w h)
  obtain ⟨sz, hsz⟩ : ∃ n, s.size = n := ⟨_, rfl⟩
  rw [hsz] at hs
  unfold maxLen at hs
  by_cases h8 : 8 < sz
  · have d1 : decide ((8 : Int) < (sz : Int)) = true := decide_eq_true (by omega)
    go_enter Tryd.func7, Tryd.ntmps7
    go_wp2_with fail
    refine (HAw.out _ hT).mono ?_; rintro e w1 ⟨rfl, b1⟩
    go_wp2_with fail
    go_ret
    exact ⟨rfl, b1⟩
  · have d1 : decide ((8 : Int) < (sz : Int)) = false := decide_eq_false (by omega)
    have d2 : ¬ (8 : Int) < (sz : Int) := by omega
    have HSZ := Lib.hid hsz
    go_enter Tryd.func7, Tryd.ntmps7
    go_wp2_with fail
    refine (HF.out _ hT).mono ?_
    rintro e w1 ⟨⟨a, r, c, R, E, rfl, hr, hCS, hr5, hfl, hFR⟩, b1⟩
    have hT1 := hT.below b1
    have hS := CtB.new w1 (.slice a r c)
    have q1 := (Below.refl _ w1).alloc (Nat.le_refl _) (.cells #[.slice a r c] 33)
    have b2 := b1.trans (q1.mono b1.size)
    have HCS := Lib.hid (hCS.below q1 (Nat.le_refl _))
    have HT1 := Lib.hid (hT1.below q1)
    have HFR := Lib.hid (And.intro hFR (And.intro hr (And.intro hr5 hfl)))
    clear hFR hCS hT1 q1 hr hfl hsz d1 d2
    by_cases hE : E = 0
    · subst hE
      have hA : validB s = true ∧ AddL [nv s] [] 0 (R.map stp) := by
        rcases HFR.out.1 with ⟨_, h, _⟩ | ⟨_, h, _⟩ | ⟨h1, _, h2⟩
        · cases h
        · exact absurd rfl h
        · exact ⟨h1, h2⟩
      have hN := isN_of hA.1
      have hn : nv s < 18446744073709551616 := by
        have h1 : blen (nv s) ≤ 8 := by rw [← hN.size, HSZ.out]; omega
        have := (blen_le_iff (nv s) 8).1 h1
        have e : (256 : Nat) ^ 8 = 18446744073709551616 := by decide
        omega
      have hck := find_ck hn hA.2
      have hlen := ckC_len hck
      rw [List.length_map, HFR.out.2.1] at hlen
      have hwf := (ckC_zero hck).1
      have hok := ok_of_wf hwf HFR.out.2.2.2 (by rw [HFR.out.2.1]; exact HFR.out.2.2.1)
      obtain ⟨k, hk⟩ : ∃ k, m % r = k := ⟨_, rfl⟩
      have hkr : k < r := by rw [← hk]; exact Nat.mod_lt _ (by omega)
      have hkR : k < R.length := by rw [HFR.out.2.1]; exact hkr
      have o1 : IntKind.i64.wrap (m : Int) = (m : Int) := wraps_i64 _ (by omega) (by omega)
      have m1 : (m : Int).tmod (r : Int) = (k : Int) := by rw [Int.tmod_eq_emod_of_nonneg (by omega), ← hk]; simp
      have r1 : ¬ ((r : Int) = 0) := by omega
      have r2 : ((r : Int) == 0) = false := by rw [beq_eq_false_iff_ne]; exact r1
      have r3 : r ≤ 256 := hlen.2
      have hd := step_data hA.2 hn hkR
      obtain ⟨b, off, rfl, _, x1, x2, _⟩ := HCS.out k hkR
      have HOK := Lib.hid hok
      have hoy := hok _ (List.getElem_mem hkR)
      obtain ⟨y, hy⟩ : ∃ y, R[k] = y := ⟨_, rfl⟩
      have HY := Lib.hid (fun h : k < R.length => hy)
      rw [hy] at x1 x2 hd hoy
      have HRK := Lib.hid (show R.set k y = R by rw [← hy]; exact List.set_getElem_self hkR)
      obtain ⟨P, A, fa, fc, F⟩ := y
      simp only at x1 x2 hd
      clear hA hN hn hck hwf hok hk hlen hy
      rcases hd with ⟨hF, hA0⟩ | ⟨hF, bb, hAb, hb2, hb64, hall⟩
      · subst hF
        obtain rfl : A = ⟨#[]⟩ := by cases A with | mk d => simp [ByteArray.size] at hA0; simp [hA0]
        have HSm := Lib.hid (fun w => refSmall_yes ⟨#[]⟩ 0 w ⟨rfl, by decide⟩ (by decide))
        clear hA0
        go_wp2_with fail
        generalize World.alloc _ _ = w3 at hS b2 HCS HT1 x1 x2 ⊢
        refine (HSm.out _).mono ?_; rintro e w4 ⟨rfl, rfl⟩
        have c0 := hS.c0
        go_wp2_with fail
        refine (HAw.out _ HT1.out).mono ?_; rintro e w5 ⟨rfl, b5⟩
        have b6 := b2.trans (b5.mono b2.size)
        go_wp2_with fail
        go_ret
        exact ⟨rfl, b6⟩
      · have hbl : blen bb ≤ 8 := (blen_le_iff bb 8).2 (by have e : (256 : Nat) ^ 8 = 18446744073709551616 := by decide
                                                           omega)
        have HSm := Lib.hid (fun w => refSmall_yes A bb w (by rw [hAb]; exact IsN.mk' (by omega)) (by rw [hAb, size_enc]; exact hbl))
        obtain ⟨n, hn⟩ : ∃ n, F.length = n := ⟨_, rfl⟩
        rw [hn] at x2
        have n0 : n ≠ 0 := fun e => hF (List.length_eq_zero_iff.1 (hn.trans e))
        have n1 : ¬ ((n : Int) = 0) := by omega
        have n2 : ((n : Int) == 0) = false := by rw [beq_eq_false_iff_ne]; exact n1
        have HALL := Lib.hid (And.intro hall hAb)
        have HHN := Lib.hid (And.intro hn hF)
        clear hall hAb hbl hn n0 hF
        go_wp2_with fail
        generalize World.alloc _ _ = w3 at hS b2 HCS HT1 x1 x2 ⊢
        refine (HSm.out _).mono ?_; rintro e w4 ⟨rfl, rfl⟩
        have c0 := hS.c0
        by_cases h60 : 60 < bb
        · have d1 : decide ((60 : Int) < (bb : Int)) = true := decide_eq_true (by omega)
          go_wp2_with fail
          refine (HAw.out _ HT1.out).mono ?_; rintro e w5 ⟨rfl, b5⟩
          have b6 := b2.trans (b5.mono b2.size)
          go_wp2_with fail
          go_ret
          exact ⟨rfl, b6⟩
        · have d1 : decide ((60 : Int) < (bb : Int)) = false := decide_eq_false (by omega)
          have d2 : ¬ (60 : Int) < (bb : Int) := by omega
          have p1 := (Below.refl _ w3).alloc (Nat.le_refl _) (.cells #[] 44)
          have HCC := Lib.hid (cs_cells (HCS.out.below p1 (Nat.le_refl _)))
          have HRL := Lib.hid HFR.out.2.1
          have c1 := cellB_keep c0 p1
          go_wp2_with (at_builtin; refine wpList_append_own _ rfl (.tmp 73) (.tmp 75) 31 rfl w3.heap.size 44 i0 (.agg #[.string ⟨#[]⟩, .string ⟨#[]⟩, .slice none 0 0]) 3 56 Tryd.underlying31 hi hz0 hz1 hz2 rfl (by decide) (.slice (some ⟨w3.heap.size, 0, none⟩) 0 0) 0 [] rfl (own_empty w3) ⟨b, off, none⟩ r c (cellsS R) rfl (by rw [cellsS_len, HRL.out]) HCC.out (cellsS_one R) (by unfold maxLen; omega) (by omega) (by simp) ?_)
          intro v' w5 hown5 hgrow5 hnn
          obtain ⟨g, c5, rfl, hg1, cur, hg2⟩ : ∃ g c5, v' = .slice (some ⟨g, 0, none⟩) r c5 ∧ w3.heap.size ≤ g ∧ ∃ cur, w5.heap[g]? = some (.cells cur 44 (0, 0)) := by
            rcases hown5.2 with ⟨e, h0⟩ | ⟨g, cap, cur, e, h1, h2, _⟩
            · omega
            · exact ⟨g, cap, e, h1, cur, h2⟩
          have p2 : Below w3.heap.size w3 w5 := p1.grown hgrow5 (by simp) (fun k e => by have e2 : some w3.heap.size = some k := e; injection e2 with e2; omega)
          have hcp : CS w5 (some ⟨g, 0, none⟩) R := HCS.out.copy (by rw [HRL.out]; exact hown5) (cells_keep p2 (Nat.le_refl _))
          have p3 := (Below.refl _ w5).alloc (Nat.le_refl _) (.cells #[.slice (some ⟨g, 0, none⟩) r c5] 33)
          have b6 : Below w.heap.size w (w5.alloc (.cells #[.slice (some ⟨g, 0, none⟩) r c5] 33)) := (b2.trans (p2.mono b2.size)).trans (p3.mono (b2.trans (p2.mono b2.size)).size)
          have H6 := Lib.hid (And.intro (hcp.below p3 (Nat.le_refl _)) (And.intro (CtB.new w5 (.slice (some ⟨g, 0, none⟩) r c5)) (And.intro (show ∃ cur, (w5.alloc (.cells #[.slice (some ⟨g, 0, none⟩) r c5] 33)).heap[g]? = some (.cells cur 44 (0, 0)) from ⟨cur, (p3.block g (Array.getElem?_eq_some_iff.1 hg2).1).trans hg2⟩) ((HT1.out.below p2).below p3))))
          clear hown5 hgrow5 hnn hg2 hcp p1 p2 p3 c1 c0 HCC
          go_wp2_with fail
          generalize w5.heap.size = q at H6 ⊢
          generalize World.alloc _ _ = w6 at H6 b6 ⊢
          go_loopw [11] (fun v11 wr => ∃ (a : Nat) (t : ByteArray), 2 ≤ a ∧ a ≤ bb ∧ v11 = .int .u64 (a : Int) ∧ Hid (CS wr (some ⟨g, 0, none⟩) (R.set k (P, t, fa, fc, F)) ∧ CtB wr q (.slice (some ⟨g, 0, none⟩) r c5) ∧ (∃ cur, wr.heap[g]? = some (.cells cur 44 (0, 0))) ∧ Tab wr) ∧ Below w.heap.size w wr) (fun v11 _ => bb - (intOf v11).toNat)
          case atStart => exact ⟨2, A, by omega, hb2, rfl, by show _ ∧ _; rw [HRK.out]; exact H6.out, b6⟩
          case round =>
            clear H6 b6
            obtain ⟨a, t, ha2, hab, rfl, hI, hBw⟩ := hrel
            by_cases hlt : a < bb
            · have e1 : decide ((a : Int) < (bb : Int)) = true := decide_eq_true (by omega)
              have hkS : k < (R.set k (P, t, fa, fc, F)).length := by rw [List.length_set, HRL.out]; exact hkr
              have c0 := hI.out.2.1.c0
              have xk : wr.cell? ⟨g, k * 3 + 1, none⟩ = some (.string t) := by
                obtain ⟨b', off', e', _, h2, _⟩ := hI.out.1 k hkS
                injection e' with e'; injection e' with e1 e2 _
                subst e1 e2
                rw [Nat.zero_add, List.getElem_set_self] at h2
                exact h2
              have fk : wr.frozen? ⟨g, k * 3 + 1, none⟩ = false := by
                obtain ⟨cur, hc⟩ := hI.out.2.2.1
                exact Lib.frozen_of_heap hc _
              have hgq : q ≠ g := fun e => by
                obtain ⟨cur, hc⟩ := hI.out.2.2.1
                have := hI.out.2.1
                unfold CtB at this
                rw [e, hc] at this; cases this
              have HNa := Lib.hid (fun w => law7num_any a w (by omega))
              have hW8 : ∀ (W : World) (u : Value), W.cell? ⟨q, 0, none⟩ = some (.slice (some ⟨g, 0, none⟩) r c5) → (W.setCell ⟨g, k * 3 + 1, none⟩ u).cell? ⟨q, 0, none⟩ = some (.slice (some ⟨g, 0, none⟩) r c5) := fun W u h => by
                rw [World.cell?_setCell_other (h := fun e => hgq (by injection e with e _; exact e.symm))]; exact h
              have k0 : (0 : Int) ≤ (k : Int) := by omega
              have k1 : (k : Int) < (r : Int) := by omega
              go_wp2_with fail
-- {{B
              refine wp_region_held_drew (S := (fun w' => w'.cell? ⟨q, 0, none⟩ = some (.slice (some ⟨g, 0, none⟩) r c5))) (by kernel_rfl) c0 (fun hS0 => ?_)
              refine wpAnyH_take (i := 0) (oi := { dst := some 83, op := _, type := _, pos := _, after := _, guard := _ }) (v := .pointer (some (⟨q, 0, none⟩ : Addr))) rfl (by kernel_rfl) (by kernel_rfl) (by kernel_rfl) (fun _ _ _ h => h) (Or.inl ⟨by rfl, fun w' hSw => (by (try dsimp only at hSw); go_simp)⟩) (by assumption) ?_
              try simp only [Act.put, List.setIfInBounds_toArray, List.set_cons_zero, List.set_cons_succ]
              refine wpAnyH_take (i := 1) (oi := { dst := some 84, op := _, type := _, pos := _, after := _, guard := _ }) (v := .slice (some ⟨g, 0, none⟩) r c5) rfl (by kernel_rfl) (by kernel_rfl) (by kernel_rfl) (fun _ _ _ h => h) (Or.inl ⟨by rfl, fun w' hSw => (by (try dsimp only at hSw); have f0 := hSw; go_simp)⟩) (by assumption) ?_
              try simp only [Act.put, List.setIfInBounds_toArray, List.set_cons_zero, List.set_cons_succ]
              refine wpAnyH_take (i := 2) (oi := { dst := some 85, op := _, type := _, pos := _, after := _, guard := _ }) (v := .int .i64 (k : Int)) rfl (by kernel_rfl) (by kernel_rfl) (by kernel_rfl) (fun _ _ _ h => h) (Or.inl ⟨by rfl, fun w' hSw => (by (try dsimp only at hSw); go_simp)⟩) (by assumption) ?_
              try simp only [Act.put, List.setIfInBounds_toArray, List.set_cons_zero, List.set_cons_succ]
              refine wpAnyH_take (i := 3) (oi := { dst := some 86, op := _, type := _, pos := _, after := _, guard := _ }) (v := .int .u64 (a : Int)) rfl (by kernel_rfl) (by kernel_rfl) (by kernel_rfl) (fun _ _ _ h => h) (Or.inl ⟨by rfl, fun w' hSw => (by (try dsimp only at hSw); go_simp)⟩) (by assumption) ?_
              try simp only [Act.put, List.setIfInBounds_toArray, List.set_cons_zero, List.set_cons_succ]
              refine wpAnyH_ready (rs := [4]) (by kernel_rfl) (by simp) ?_
              refine AllReadyH.cons rfl (fun K hK => ?_) AllReadyH.nil
              rw [if_pos (by rfl)]
              go_simp
              go_at_call 18
              refine (HNa.out _).mono ?_; rintro e w8 ⟨rfl, b8⟩
              try go_simp
              have b8 : Below wr.heap.size wr w8 := (Below.refl _ wr).drew.trans b8
              refine hK.out _ _ (cellB_keep c0 b8) (fun hS1 => ?_)
              clear hK hS0
              try simp only [Act.put, List.setIfInBounds_toArray, List.set_cons_zero, List.set_cons_succ]
              refine wpAnyH_take (i := 5) (oi := { dst := some 88, op := _, type := _, pos := _, after := _, guard := _ }) (v := .pointer (some (⟨g, k * 3, none⟩ : Addr))) rfl (by kernel_rfl) (by kernel_rfl) (by kernel_rfl) (fun _ _ _ h => h) (Or.inl ⟨by rfl, fun w' hSw => (by (try dsimp only at hSw); go_simp)⟩) (by assumption) ?_
              try simp only [Act.put, List.setIfInBounds_toArray, List.set_cons_zero, List.set_cons_succ]
              refine wpAnyH_take (i := 6) (oi := { dst := some 89, op := _, type := _, pos := _, after := _, guard := _ }) (v := .pointer (some (⟨g, k * 3 + 1, none⟩ : Addr))) rfl (by kernel_rfl) (by kernel_rfl) (by kernel_rfl) (fun _ _ _ h => h) (Or.inl ⟨by rfl, fun w' hSw => (by (try dsimp only at hSw); go_simp)⟩) (by assumption) ?_
              try simp only [Act.put, List.setIfInBounds_toArray, List.set_cons_zero, List.set_cons_succ]
              have f := cellB_keep xk b8
              have fz := (b8.frozen (p := ⟨g, k * 3 + 1, none⟩) (World.block_lt_of_cell? _ _ xk)).trans fk
              have c8 := cellB_keep c0 b8
              refine wpAnyH_ready (rs := [7]) (by kernel_rfl) (by simp) ?_
              refine AllReadyH.cons rfl (fun K hK => ?_) AllReadyH.nil
              rw [if_pos (by rfl)]
              go_simp
              refine hK.out _ _ (hW8 _ _ c8) (fun hS2 => ?_)
              clear hK hS1
              try simp only [Act.put, List.setIfInBounds_toArray, List.set_cons_zero, List.set_cons_succ]
              refine wpAnyH_done (by kernel_rfl) ?_ _
-- }}B
              have hcs9 : CS (w8.setCell ⟨g, k * 3 + 1, none⟩ (.string (enc a))) (some ⟨g, 0, none⟩) (R.set k (P, enc a, fa, fc, F)) := by
                have := (hI.out.1.below b8 (Nat.le_refl _)).set hkS (enc a)
                simp only [List.getElem_set_self, List.set_set] at this
                exact this
              have hgl : w.heap.size ≤ g := Nat.le_trans b2.size hg1
              have b9 : Below w.heap.size w (w8.setCell ⟨g, k * 3 + 1, none⟩ (.string (enc a))) := (hBw.trans (b8.mono hBw.size)).setCell (p := ⟨g, k * 3 + 1, none⟩) hgl _
              have hct9 : CtB (w8.setCell ⟨g, k * 3 + 1, none⟩ (.string (enc a))) q (.slice (some ⟨g, 0, none⟩) r c5) := (Below.heap_setCell _ _ _ _ hgq).trans (hI.out.2.1.below b8 hI.out.2.1.lt)
              have hcu9 : ∃ cur, (w8.setCell ⟨g, k * 3 + 1, none⟩ (.string (enc a))).heap[g]? = some (.cells cur 44 (0, 0)) := by
                obtain ⟨cur, hc⟩ := hI.out.2.2.1
                exact ⟨_, put1' ((b8.block g (Array.getElem?_eq_some_iff.1 hc).1).trans hc)⟩
              have hg0 : 0 < w.heap.size := World.block_lt_of_cell? w _ (hT 0 (by omega))
              have ht9 : Tab (w8.setCell ⟨g, k * 3 + 1, none⟩ (.string (enc a))) := tab_belowB hT b9 hg0
              have H9 := Lib.hid (And.intro hcs9 (And.intro hct9 (And.intro hcu9 ht9)))
              have c9 := hct9.c0
              have hok9 : ∀ x ∈ R.set k (P, enc a, fa, fc, F), x.ok := fun x hx => by
                rcases List.mem_or_eq_of_mem_set hx with h | h
                · exact HOK.out x h
                · subst h
                  refine ⟨hoy.1, ?_, hoy.2.2.1, hoy.2.2.2⟩
                  show (enc a).size ≤ maxLen
                  rw [size_enc]
                  have := (blen_le_iff a 8).2 (by omega)
                  unfold maxLen; omega
              have hrl9 : (R.set k (P, enc a, fa, fc, F)).length = r := by rw [List.length_set, HRL.out]
              have hck9 : ckC ((R.set k (P, enc a, fa, fc, F)).map stp) = 12 := by
                rw [List.map_set]
                have := HALL.out.1 a ha2 hlt
                exact (congrArg ckC (by first | rfl | (congr 1; rw [HY.out hkR]; rfl) | (rw [HY.out hkR]; rfl))).trans this
              have HCk9 := (fun w hT h => ceCheck_any (some ⟨g, 0, none⟩) r c5 (R.set k (P, enc a, fa, fc, F)) w hT h hrl9 (by rw [hrl9]; unfold maxLen; omega) hok9)
              rw [hck9] at HCk9
              have HCk9 := Lib.hid HCk9
              have o2 : IntKind.u64.wrap ((a : Int) + 1) = ((a + 1 : Nat) : Int) := by rw [wraps_u64 _ (by omega) (by omega)]; omega
              clear hcs9 hct9 hcu9 ht9 hok9 hrl9 hck9 hI hW8 c8 f fz xk fk c0 hkS
              go_wp2_with fail
              generalize World.setCell _ _ _ = w9 at H9 b9 c9 ⊢
              refine (HCk9.out _ H9.out.2.2.2 H9.out.1).mono ?_; rintro e w10 ⟨rfl, b10⟩
              have b11 := b9.trans (b10.mono b9.size)
              have H10 : Hid (CS w10 (some ⟨g, 0, none⟩) (R.set k (P, enc a, fa, fc, F)) ∧ CtB w10 q (.slice (some ⟨g, 0, none⟩) r c5) ∧ (∃ cur, w10.heap[g]? = some (.cells cur 44 (0, 0))) ∧ Tab w10) := by
                obtain ⟨h1, h2, ⟨cur, h3⟩, h4⟩ := H9.out
                exact ⟨h1.below b10 (Nat.le_refl _), h2.below b10 h2.lt, ⟨cur, (b10.block g (Array.getElem?_eq_some_iff.1 h3).1).trans h3⟩, h4.below b10⟩
              go_wp2_with fail
              exact ⟨⟨a + 1, enc a, by omega, by omega, by go_num, H10, b11⟩, by simp [intOf]; omega⟩
            · obtain rfl : a = bb := by omega
              have e1 : decide ((a : Int) < (a : Int)) = false := decide_eq_false (by omega)
              have e2 : decide ((2 : Int) ≤ (a : Int)) = true := decide_eq_true (by omega)
              have e3 : (2 : Int) ≤ (a : Int) := by omega
              go_wp2_with fail
              refine (HAw.out _ hI.out.2.2.2).mono ?_; rintro e w5 ⟨rfl, b5⟩
              have b7 := hBw.trans (b5.mono hBw.size)
              go_wp2_with fail
              go_ret
              exact ⟨rfl, b7⟩
    · have hE2 : (E == 0) = false := by rw [beq_eq_false_iff_ne]; exact hE
      have hE3 : (E != 0) = true := by simp [bne, hE2]
      go_wp2_with fail
      generalize World.alloc _ _ = w3 at hS b2 HT1 ⊢
      refine (HAw.out _ HT1.out).mono ?_; rintro e w4 ⟨rfl, b4⟩
      have b5 := b2.trans (b4.mono b2.size)
      go_wp2_with fail
      go_ret
      exact ⟨rfl, b5⟩
theorem bases_row (s : ByteArray) (x : Int) (wx : (Lit.int .u8 x).wf = true) (w : World) (hT : Tab w) (hs : s.size ≤ maxLen) :
    Calls Tryd.prog 7 #[.string s, .int .u8 x] w fun e w' => e = .returned (.bool true) ∧ Below w.heap.size w w' := by
  have hx : 0 ≤ x ∧ x ≤ 255 := by simpa [Lit.wf, IntKind.min, IntKind.max, IntKind.signed, IntKind.bits] using wx
  obtain ⟨n, rfl⟩ : ∃ n : Nat, x = (n : Int) := ⟨x.toNat, by omega⟩
  exact bases_walk s n (by omega) w hT hs
end Go.Proofs.YtjminjliomffaaaDoor
