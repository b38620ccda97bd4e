import Derived.Test.YtcbamkgomnhdbaaGreatDoorLrA
import Derived.Test.YtcbamkgomnhdbaaGreatDoorRows
import Derived.Test.YtcbamkgomnhdbaaGreatDoorPost
import Derived.ProofKit
import Derived.LaidMore
import Derived.OpenShut
import Derived.Stop.Joined
/- The law's helpers Few, FewInts; the walk of LinearChecks. -/
namespace Go.Proofs.YtcbamkgomnhdbaaGreatDoor
open Go.RowKit Num
set_option maxRecDepth 20000
set_option linter.unusedVariables false
/-- what Few shows -/
structure FewP (S : StM) : Prop where
  gl : S.G.length ≤ 10
  vl : S.V.length ≤ 12
  ql : S.Q.length ≤ 12
  g : ∀ k (h : k < S.G.length), S.G[k].1.size ≤ 8 ∧ S.G[k].2.size ≤ 8
  v : ∀ k (h : k < S.V.length), S.V[k].size ≤ 16
  q : ∀ k (h : k < S.Q.length), S.Q[k].2.1.size ≤ 12 ∧ S.Q[k].2.2.2.2.length ≤ 12 ∧ ∀ j (h' : j < S.Q[k].2.2.2.2.length), S.Q[k].2.2.2.2[j].1.size ≤ 12 ∧ S.Q[k].2.2.2.2[j].2.2.2.size ≤ 8
/-- what a test of sizes answers -/
def FWP (P : Prop) (w : World) : Ending → World → Prop := fun e w' => ∃ V, e = .returned (.bool V) ∧ (V = true → P) ∧ Below w.heap.size w w'
theorem FWP.no {P : Prop} {w w' : World} (h : Below w.heap.size w w') : FWP P w (.returned (.bool false)) w' := ⟨_, rfl, (fun e => by cases e), h⟩
theorem FWP.yes {P : Prop} {w w' : World} (hP : P) (h : Below w.heap.size w w') : FWP P w (.returned (.bool true)) w' := ⟨_, rfl, (fun _ => hP), h⟩
set_option maxHeartbeats 8000000 in
theorem few_any (a : StA) (S : StM) (w : World) (hS : SS w a S) (hok : S.ok) :
    Calls Tryz.prog 10 #[.agg #[.slice a.ga S.G.length a.gc, .slice a.va S.V.length a.vc, .slice a.qa S.Q.length a.qc]] w (FWP (FewP S) w) := by
  have hb := (Below.refl _ w).alloc (Nat.le_refl _) (.cells #[.slice a.ga S.G.length a.gc, .slice a.va S.V.length a.vc, .slice a.qa S.Q.length a.qc] 26)
  have hX := SXB.new w a S
  have hS0 := hS.below hb (Nat.le_refl _)
  obtain ⟨FP, hFP⟩ : ∃ p, FewP S = p := ⟨_, rfl⟩
  have HFI : Hid (S.G.length ≤ 10 → S.V.length ≤ 12 → S.Q.length ≤ 12 → (∀ k (h : k < S.G.length), S.G[k].1.size ≤ 8 ∧ S.G[k].2.size ≤ 8) → (∀ k (h : k < S.V.length), S.V[k].size ≤ 16) → (∀ k (h : k < S.Q.length), S.Q[k].2.1.size ≤ 12 ∧ S.Q[k].2.2.2.2.length ≤ 12 ∧ ∀ j (h' : j < S.Q[k].2.2.2.2.length), S.Q[k].2.2.2.2[j].1.size ≤ 12 ∧ S.Q[k].2.2.2.2[j].2.2.2.size ≤ 8) → FP) := by
    show _
    rw [← hFP]
    exact fun h1 h2 h3 h4 h5 h6 => ⟨h1, h2, h3, h4, h5, h6⟩
  rw [hFP]
  clear hFP
  have hX0 := hX.c0
  have hX1 := hX.c1
  have hX2 := hX.c2
  have HG := Lib.hid hS0.g
  have HV := Lib.hid hS0.v
  have HQ := Lib.hid hS0.q
  have l1 : S.G.length ≤ maxLen := hok.gl
  have l2 : S.V.length ≤ maxLen := hok.vl
  have l3 : S.Q.length ≤ maxLen := hok.ql
  have g4 : Hid (∀ g ∈ S.G, g.1.size ≤ maxLen ∧ g.2.size ≤ maxLen) := hok.g
  have v4 : Hid (∀ v ∈ S.V, v.size ≤ maxLen) := hok.v
  have q4 : Hid (∀ q ∈ S.Q, EqR.ok q) := hok.q
  clear hS hS0 hok hX
  obtain ⟨ga, gc, va, vc, qa, qc⟩ := a
  obtain ⟨G, W, Q⟩ := S
  simp only at hb hX0 hX1 hX2 HG HV HQ l1 l2 l3 g4 v4 q4 HFI ⊢
  unfold EqR.ok TmR.ok at q4
  unfold maxLen at l1 l2 l3 g4 v4 q4
  obtain ⟨ng, hng⟩ : ∃ n, G.length = n := ⟨_, rfl⟩
  obtain ⟨nw, hnv⟩ : ∃ n, W.length = n := ⟨_, rfl⟩
  obtain ⟨mq, hnq⟩ : ∃ n, Q.length = n := ⟨_, rfl⟩
  have HNG := Lib.hid hng
  have HNV := Lib.hid hnv
  have HNQ := Lib.hid hnq
  simp only [hng, hnv, hnq] at hb hX0 hX1 hX2 l1 l2 l3 HG HV HQ ⊢
  clear hng hnv hnq
  by_cases t1 : 10 < ng
  · have e1 : decide ((10 : Int) < (ng : Int)) = true := decide_eq_true (by omega)
    have e1' : (10 : Int) < (ng : Int) := by omega
    go_enter Tryz.func10, Tryz.ntmps10
    go_wp2_with fail
    go_ret
    exact FWP.no hb
  have e1 : decide ((10 : Int) < (ng : Int)) = false := decide_eq_false (by omega)
  have e1' : ¬ (10 : Int) < (ng : Int) := by omega
  by_cases t2 : 12 < nw
  · have e2 : decide ((12 : Int) < (nw : Int)) = true := decide_eq_true (by omega)
    have e2' : (12 : Int) < (nw : Int) := by omega
    go_enter Tryz.func10, Tryz.ntmps10
    go_wp2_with fail
    go_ret
    exact FWP.no hb
  have e2 : decide ((12 : Int) < (nw : Int)) = false := decide_eq_false (by omega)
  have e2' : ¬ (12 : Int) < (nw : Int) := by omega
  by_cases t3 : 12 < mq
  · have e3 : decide ((12 : Int) < (mq : Int)) = true := decide_eq_true (by omega)
    have e3' : (12 : Int) < (mq : Int) := by omega
    go_enter Tryz.func10, Tryz.ntmps10
    go_wp2_with fail
    go_ret
    exact FWP.no hb
  have e3 : decide ((12 : Int) < (mq : Int)) = false := decide_eq_false (by omega)
  have e3' : ¬ (12 : Int) < (mq : Int) := by omega
  have H3 := Lib.hid (And.intro t1 (And.intro t2 t3))
  go_enter Tryz.func10, Tryz.ntmps10
  go_wp2_with fail
  clear e1 e1' e2 e2' e3 e3' t1 t2 t3
  generalize hw0 : World.alloc _ _ = w0 at hb hX0 hX1 hX2 HG HV HQ ⊢
  clear hw0
  go_loopw [3] (fun v3 wr => ∃ k : Nat, k ≤ ng ∧ v3 = .int .i64 (k : Int) ∧ Hid (∀ i (h : i < G.length), i < k → G[i].1.size ≤ 8 ∧ G[i].2.size ≤ 8) ∧ wr = w0) (fun v3 _ => ng - (intOf v3).toNat)
  case atStart => exact ⟨0, by omega, rfl, fun i _ h => by omega, rfl⟩
  case round =>
    obtain ⟨k, hk, rfl, hP, rfl⟩ := hrel
    by_cases hlt : k < ng
    · have hkG : k < G.length := by rw [HNG.out]; exact hlt
      obtain ⟨b, off, rfl, c0, c1⟩ := HG.out k hkG
      obtain ⟨s1, s2⟩ := g4.out _ (List.getElem_mem hkG)
      have HX : Hid (∃ x, G[k] = x) := ⟨_, rfl⟩
      obtain ⟨x, hx⟩ := HX
      rw [hx] at c0 c1 s1 s2
      obtain ⟨M, O⟩ := x
      simp only at c0 c1 s1 s2
      have HX := Lib.hid hx
      clear hx
      by_cases t1 : 8 < M.size
      · have e1 : decide ((8 : Int) < (M.size : Int)) = true := decide_eq_true (by omega)
        have e1' : (8 : Int) < (M.size : Int) := by omega
        go_wp2_with fail
        go_ret
        exact FWP.no hb
      have e1 : decide ((8 : Int) < (M.size : Int)) = false := decide_eq_false (by omega)
      have e1' : ¬ (8 : Int) < (M.size : Int) := by omega
      by_cases t2 : 8 < O.size
      · have e2 : decide ((8 : Int) < (O.size : Int)) = true := decide_eq_true (by omega)
        have e2' : (8 : Int) < (O.size : Int) := by omega
        go_wp2_with fail
        go_ret
        exact FWP.no hb
      have e2 : decide ((8 : Int) < (O.size : Int)) = false := decide_eq_false (by omega)
      have e2' : ¬ (8 : Int) < (O.size : Int) := by omega
      have HN : Hid (∀ i (h : i < G.length), i < k + 1 → G[i].1.size ≤ 8 ∧ G[i].2.size ≤ 8) := fun i h h' => by
        by_cases e : i = k
        · subst e; rw [HX.out]; exact ⟨by show M.size ≤ 8; omega, by show O.size ≤ 8; omega⟩
        · exact hP.out i h (by omega)
      clear hP hkG HX
      go_wp2_with fail
      exact ⟨⟨k + 1, by omega, by go_num, HN, by trivial⟩, by simp [intOf]; omega⟩
    · obtain rfl : ng = k := by omega
      have HPG : Hid (∀ i (h : i < G.length), G[i].1.size ≤ 8 ∧ G[i].2.size ≤ 8) := fun i h => hP.out i h (by rw [HNG.out] at h; exact h)
      clear hP
      go_wp2_with fail
      obtain ⟨wo1, rfl⟩ : ∃ wo : World, wo = wr := ⟨_, rfl⟩
      go_loopw [4] (fun v4 wr => ∃ k : Nat, k ≤ nw ∧ v4 = .int .i64 (k : Int) ∧ Hid (∀ i (h : i < W.length), i < k → W[i].size ≤ 16) ∧ wr = wo1) (fun v4 _ => nw - (intOf v4).toNat)
      case atStart => exact ⟨0, by omega, rfl, fun i _ h => by omega, rfl⟩
      case round =>
        obtain ⟨k, hk, rfl, hP, rfl⟩ := hrel
        by_cases hlt : k < nw
        · have hkW : k < W.length := by rw [HNV.out]; exact hlt
          obtain ⟨b, off, rfl, c0⟩ := HV.out k hkW
          have s1 := v4.out _ (List.getElem_mem hkW)
          obtain ⟨x, hx⟩ : ∃ x, W[k] = x := ⟨_, rfl⟩
          rw [hx] at c0 s1
          have HX := Lib.hid hx
          clear hx
          by_cases t1 : 16 < x.size
          · have e1 : decide ((16 : Int) < (x.size : Int)) = true := decide_eq_true (by omega)
            have e1' : (16 : Int) < (x.size : Int) := by omega
            go_wp2_with fail
            go_ret
            exact FWP.no hb
          have e1 : decide ((16 : Int) < (x.size : Int)) = false := decide_eq_false (by omega)
          have e1' : ¬ (16 : Int) < (x.size : Int) := by omega
          have HN : Hid (∀ i (h : i < W.length), i < k + 1 → W[i].size ≤ 16) := fun i h h' => by
            by_cases e : i = k
            · subst e; rw [HX.out]; omega
            · exact hP.out i h (by omega)
          clear hP hkW HX
          go_wp2_with fail
          exact ⟨⟨k + 1, by omega, by go_num, HN, by trivial⟩, by simp [intOf]; omega⟩
        · obtain rfl : nw = k := by omega
          have HPV : Hid (∀ i (h : i < W.length), W[i].size ≤ 16) := fun i h => hP.out i h (by rw [HNV.out] at h; exact h)
          clear hP
          go_wp2_with fail
          obtain ⟨wo2, rfl⟩ : ∃ wo : World, wo = wr := ⟨_, rfl⟩
          go_loopw [5] (fun v5 wr => ∃ k : Nat, k ≤ mq ∧ v5 = .int .i64 (k : Int) ∧ Hid (∀ i (h : i < Q.length), i < k → Q[i].2.1.size ≤ 12 ∧ Q[i].2.2.2.2.length ≤ 12 ∧ ∀ j (h' : j < Q[i].2.2.2.2.length), Q[i].2.2.2.2[j].1.size ≤ 12 ∧ Q[i].2.2.2.2[j].2.2.2.size ≤ 8) ∧ wr = wo2) (fun v5 _ => mq - (intOf v5).toNat)
          case atStart => exact ⟨0, by omega, rfl, fun i _ h => by omega, rfl⟩
          case round =>
            obtain ⟨k, hk, rfl, hP, rfl⟩ := hrel
            by_cases hlt : k < mq
            · have hkQ : k < Q.length := by rw [HNQ.out]; exact hlt
              obtain ⟨b, off, rfl, c0, c1, c2, hT⟩ := HQ.out k hkQ
              obtain ⟨ss, s1, s2, s3⟩ := q4.out _ (List.getElem_mem hkQ)
              obtain ⟨x, hx⟩ : ∃ x, Q[k] = x := ⟨_, rfl⟩
              rw [hx] at c0 c1 c2 hT ss s1 s2 s3
              clear ss
              obtain ⟨u, T, ta, tc, L⟩ := x
              simp only at c0 c1 c2 hT s1 s2 s3
              have HX := Lib.hid hx
              have S3 := Lib.hid s3
              obtain ⟨nt, hnt⟩ : ∃ n, L.length = n := ⟨_, rfl⟩
              rw [hnt] at c2 s2
              have HNT := Lib.hid hnt
              have HT := Lib.hid hT
              clear hx s3 hT hnt
              by_cases t1 : 12 < T.size
              · have e1 : decide ((12 : Int) < (T.size : Int)) = true := decide_eq_true (by omega)
                have e1' : (12 : Int) < (T.size : Int) := by omega
                go_wp2_with fail
                go_ret
                exact FWP.no hb
              have e1 : decide ((12 : Int) < (T.size : Int)) = false := decide_eq_false (by omega)
              have e1' : ¬ (12 : Int) < (T.size : Int) := by omega
              by_cases t2 : 12 < nt
              · have e2 : decide ((12 : Int) < (nt : Int)) = true := decide_eq_true (by omega)
                have e2' : (12 : Int) < (nt : Int) := by omega
                go_wp2_with fail
                go_ret
                exact FWP.no hb
              have e2 : decide ((12 : Int) < (nt : Int)) = false := decide_eq_false (by omega)
              have e2' : ¬ (12 : Int) < (nt : Int) := by omega
              have H12 := Lib.hid (And.intro t1 t2)
              go_wp2_with fail
              clear e1 e1' e2 e2' t1 t2
              obtain ⟨wo3, rfl⟩ : ∃ wo : World, wo = wr := ⟨_, rfl⟩
              go_loopw [6] (fun v6 wr => ∃ i : Nat, i ≤ nt ∧ v6 = .int .i64 (i : Int) ∧ Hid (∀ j (h : j < L.length), j < i → L[j].1.size ≤ 12 ∧ L[j].2.2.2.size ≤ 8) ∧ wr = wo3) (fun v6 _ => nt - (intOf v6).toNat)
              case atStart => exact ⟨0, by omega, rfl, fun i _ h => by omega, rfl⟩
              case round =>
                obtain ⟨i, hi, rfl, hR, rfl⟩ := hrel
                by_cases hli : i < nt
                · have hiL : i < L.length := by rw [HNT.out]; exact hli
                  obtain ⟨b3, off3, rfl, d0, d1, d2, d3⟩ := HT.out i hiL
                  obtain ⟨z1, zz, z2⟩ := S3.out _ (List.getElem_mem hiL)
                  obtain ⟨y, hy⟩ : ∃ x, L[i] = x := ⟨_, rfl⟩
                  rw [hy] at d0 d1 d2 d3 z1 zz z2
                  clear zz
                  obtain ⟨s, uu, g, E⟩ := y
                  simp only at d0 d1 d2 d3 z1 z2
                  have HY := Lib.hid hy
                  clear hy
                  by_cases t1 : 12 < s.size
                  · have e1 : decide ((12 : Int) < (s.size : Int)) = true := decide_eq_true (by omega)
                    have e1' : (12 : Int) < (s.size : Int) := by omega
                    go_wp2_with fail
                    go_ret
                    exact FWP.no hb
                  have e1 : decide ((12 : Int) < (s.size : Int)) = false := decide_eq_false (by omega)
                  have e1' : ¬ (12 : Int) < (s.size : Int) := by omega
                  by_cases t2 : 8 < E.size
                  · have e2 : decide ((8 : Int) < (E.size : Int)) = true := decide_eq_true (by omega)
                    have e2' : (8 : Int) < (E.size : Int) := by omega
                    go_wp2_with fail
                    go_ret
                    exact FWP.no hb
                  have e2 : decide ((8 : Int) < (E.size : Int)) = false := decide_eq_false (by omega)
                  have e2' : ¬ (8 : Int) < (E.size : Int) := by omega
                  have HN : Hid (∀ j (h : j < L.length), j < i + 1 → L[j].1.size ≤ 12 ∧ L[j].2.2.2.size ≤ 8) := fun j h h' => by
                    by_cases e : j = i
                    · subst e; rw [HY.out]; exact ⟨by show s.size ≤ 12; omega, by show E.size ≤ 8; omega⟩
                    · exact hR.out j h (by omega)
                  clear hR hiL HY
                  go_wp2_with fail
                  exact ⟨⟨i + 1, by omega, by go_num, HN, by trivial⟩, by simp [intOf]; omega⟩
                · obtain rfl : nt = i := by omega
                  have HN : Hid (∀ i (h : i < Q.length), i < k + 1 → Q[i].2.1.size ≤ 12 ∧ Q[i].2.2.2.2.length ≤ 12 ∧ ∀ j (h' : j < Q[i].2.2.2.2.length), Q[i].2.2.2.2[j].1.size ≤ 12 ∧ Q[i].2.2.2.2[j].2.2.2.size ≤ 8) := fun i h h' => by
                    by_cases e : i = k
                    · subst e
                      rw [HX.out]
                      refine ⟨by show T.size ≤ 12; have := H12.out.1; omega, by show L.length ≤ 12; have := H12.out.2; have := HNT.out; omega, fun j hj => ?_⟩
                      exact hR.out j hj (by have : j < L.length := hj; rw [HNT.out] at this; exact this)
                    · exact hP.out i h (by omega)
                  clear hR hP HX hkQ
                  go_wp2_with fail
                  exact ⟨⟨k + 1, by omega, by go_num, HN, by trivial⟩, by simp [intOf]; omega⟩
            · obtain rfl : mq = k := by omega
              have HF : Hid FP := HFI.out (by have := H3.out.1; have := HNG.out; omega) (by have := H3.out.2.1; have := HNV.out; omega) (by have := H3.out.2.2; have := HNQ.out; omega) HPG.out HPV.out (fun i h => hP.out i h (by rw [HNQ.out] at h; exact h))
              clear hP
              go_wp2_with fail
              go_ret
              exact FWP.yes HF.out hb
set_option maxHeartbeats 4000000 in
theorem lchecks_walk (a : StA) (S : StM) (w : World) (hok : S.ok) (hS : SS w a S) :
    Calls Tryz.prog 3 #[.agg #[.slice a.ga S.G.length a.gc, .slice a.va S.V.length a.vc, .slice a.qa S.Q.length a.qc]] w fun e w' => e = .returned (.bool true) ∧ Below w.heap.size w w' := by
  have hb := (Below.refl _ w).alloc (Nat.le_refl _) (.cells #[.slice a.ga S.G.length a.gc, .slice a.va S.V.length a.vc, .slice a.qa S.Q.length a.qc] 26)
  have hX := SXB.new w a S
  have hS0 := hS.below hb (Nat.le_refl _)
  have H1 := Lib.hid (few_any a S (w.alloc (.cells #[.slice a.ga S.G.length a.gc, .slice a.va S.V.length a.vc, .slice a.qa S.Q.length a.qc] 26)) hS0 hok)
  unfold FWP at H1
  have H2 := Lib.hid (fun w' (hb' : Below (w.alloc (.cells #[.slice a.ga S.G.length a.gc, .slice a.va S.V.length a.vc, .slice a.qa S.Q.length a.qc] 26)).heap.size (w.alloc (.cells #[.slice a.ga S.G.length a.gc, .slice a.va S.V.length a.vc, .slice a.qa S.Q.length a.qc] 26)) w') => lcheck_any a S w' (hS0.below hb' (Nat.le_refl _)) hok)
  have H3 := Lib.hid (fun w' (hb' : Below (w.alloc (.cells #[.slice a.ga S.G.length a.gc, .slice a.va S.V.length a.vc, .slice a.qa S.Q.length a.qc] 26)).heap.size (w.alloc (.cells #[.slice a.ga S.G.length a.gc, .slice a.va S.V.length a.vc, .slice a.qa S.Q.length a.qc] 26)) w') (hf : FewP S) => rcheck_any a S w' (hS0.below hb' (Nat.le_refl _)) hok (fun g hg => by obtain ⟨i, hi, rfl⟩ := List.mem_iff_getElem.1 hg; have := (hf.g i hi).1; omega))
  have hX0 := hX.c0
  have hX1 := hX.c1
  have hX2 := hX.c2
  obtain ⟨Z, hZ⟩ : ∃ Z, lckE S.pl = Z := ⟨_, rfl⟩
  rw [hZ] at H2 H3
  clear hS hS0 hok hX hZ
  go_enter Tryz.func3, Tryz.ntmps3
  go_wp2_with fail
  generalize hw0 : World.alloc _ _ = w0 at hb hX0 hX1 hX2 H1 H2 H3 ⊢
  clear hw0
  go_wp2_with fail
  refine H1.out.mono ?_; rintro e w1 ⟨V, rfl, hV, b1⟩
  have hb1 := hb.trans (b1.mono hb.size)
  have x0 := cells_keepL b1 (Nat.le_refl _) _ _ hX0
  have x1 := cells_keepL b1 (Nat.le_refl _) _ _ hX1
  have x2 := cells_keepL b1 (Nat.le_refl _) _ _ hX2
  cases V
  · clear hV
    go_wp2_with fail
    refine (awakeL _).mono ?_; rintro e w2 ⟨rfl, b2⟩
    have hb2 := hb1.trans (b2.mono hb1.size)
    go_wp2_with fail
    go_ret
    exact ⟨rfl, hb2⟩
  · have HF := Lib.hid (hV rfl)
    clear hV hX0 hX1 hX2 H1
    go_wp2_with fail
    go_region_held3 (fun w' => w'.cell? ⟨w.heap.size, 0, none⟩ = some (.slice a.ga S.G.length a.gc) ∧ w'.cell? ⟨w.heap.size, 1, none⟩ = some (.slice a.va S.V.length a.vc) ∧ w'.cell? ⟨w.heap.size, 2, none⟩ = some (.slice a.qa S.Q.length a.qc) ∧ w'.cell? ⟨w.heap.size, 2, none⟩ = some (.slice a.qa S.Q.length a.qc) ∧ Below w0.heap.size w0 w')
      (first | exact ⟨x0, x1, x2, x2, b1.drew⟩ | assumption | (refine keep5L ?_ (Nat.le_refl _) bn; assumption))
      (first
        | (go_at_call 11; (with_reducible refine (awakeL _).mono ?_); rintro e wn ⟨rfl, bn⟩; have hba := b1.drew.trans (bn.mono b1.size))
        | (go_at_call 12; (with_reducible refine (H2.out _ hba).mono ?_); rintro e wn ⟨rfl, bn⟩; have hbb := hba.trans (bn.mono hba.size))
        | (go_at_call 13; (with_reducible refine (H3.out _ hbb HF.out).mono ?_); rintro e wn ⟨rfl, bn⟩; have hbc := hbb.trans (bn.mono hbb.size)))
    all_goals
      go_split_ands
      go_wp2_with fail
      go_ret
      exact ⟨rfl, hb.trans (hbc.mono hb.size)⟩
end Go.Proofs.YtcbamkgomnhdbaaGreatDoor

/- The variables that the rows of this seat lay. -/
namespace Go.Proofs.YtcbamkgomnhdbaaGreatDoor
open Go.ChangeShapes Go.WideShapes Go.ChangeAt Go.RowKit
def laidT {H : Type} : List (String × DataW H) := [("math/bits.deBruijn32tab", Rows.laid_math_bits_deBruijn32tab), ("math/bits.deBruijn64tab", Rows.laid_math_bits_deBruijn64tab), ("internal/strconv.uint64pow10", Rows.laid_internal_strconv_uint64pow10)]
set_option maxRecDepth 100000 in
/-- the door's own heap meets the condition -/
theorem door_met (os : Os) (args : Array Value) : laidMetH Tryz.prog laidT ((World.doorLaid Tryz.prog 400 os).forCall (fun _ _ => 0) ⟨#[], args, []⟩).memory :=
  laidMetH_of_parts3 (fuel := 8) (laidMet_of_run' 8 (by kernel_rfl) (by kernel_rfl)) (by kernel_rfl) (by kernel_rfl)
end Go.Proofs.YtcbamkgomnhdbaaGreatDoor
