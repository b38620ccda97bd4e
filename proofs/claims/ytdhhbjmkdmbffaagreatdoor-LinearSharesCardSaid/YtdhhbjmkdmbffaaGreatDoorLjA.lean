import Derived.Test.YtdhhbjmkdmbffaaGreatDoorLlB
import Derived.Lib.SliceRun
import Derived.WalkSpells
/- Lists of indices in memory; sameIndices; Same of two statements that are alike. -/
namespace Go.Proofs.YtdhhbjmkdmbffaaGreatDoor
open Go.RowKit Num
set_option maxRecDepth 20000
set_option linter.unusedVariables false
/-- a slice of int -/
def LI (w : World) (ao : Option Addr) (L : List Int) : Prop := ∀ k (h : k < L.length), ∃ b off, ao = some ⟨b, off, none⟩ ∧ w.cell? ⟨b, off + k, none⟩ = some (.int .i64 L[k])
theorem LI.keep {w w' : World} {a : Option Addr} {L : List Int} (h : LI w a L) (hk : ∀ p v, w.cell? p = some v → w'.cell? p = some v) : LI w' a L := fun k hk' => by
 obtain ⟨b, off, h1, h2⟩ := h k hk'
 exact ⟨b, off, h1, hk _ _ h2⟩
set_option maxHeartbeats 4000000 in
theorem sameIdx_any (ao bo : Option Addr) (n c c' : Nat) (L : List Int) (w : World) (ha : LI w ao L) (hb : LI w bo L) (hn : L.length = n) (hn1 : n ≤ maxLen) :
  Calls Tryz.prog 20 #[.slice ao n c, .slice bo n c'] w fun e w' => e = .returned (.bool true) ∧ Below w.heap.size w w' := by
 have HA := Lib.hid ha
 have HB := Lib.hid hb
 have HN := Lib.hid hn
 unfold maxLen at hn1
 have q1 : ((n : Int) != (n : Int)) = false := by simp
 clear ha hb hn
 go_enter Tryz.func20, Tryz.ntmps20
 go_wp2_with fail
 go_loopw [5] (fun v5 wr => ∃ k : Nat, k ≤ n ∧ v5 = .int .i64 (k : Int) ∧ Below w.heap.size w wr) (fun v5 _ => n - (intOf v5).toNat)
 case atStart => exact ⟨0, by omega, rfl, Below.refl _ _⟩
 case round =>
  obtain ⟨k, hk, rfl, hB⟩ := hrel
  by_cases hlt : k < n
  ·
   have hkl : k < L.length := by rw [HN.out]; exact hlt
   obtain ⟨b, off, rfl, c0⟩ := (HA.out.keep (cells_keepL hB (Nat.le_refl _))) k hkl
   obtain ⟨b2, off2, rfl, d0⟩ := (HB.out.keep (cells_keepL hB (Nat.le_refl _))) k hkl
   generalize L[k] = x at c0 d0
   have q2 : (x != x) = false := by simp
   clear hkl
   go_wp2_with fail
   go_quiet (fail)
   have hB3 : Below w.heap.size w (wr.drewN nq) := hB.trans ((Below.drewNL _ _ _).mono hB.size)
   generalize World.drewN _ _ = w5 at hB3 ⊢
   go_wp2_with fail
   exact ⟨⟨k + 1, by omega, by go_num, hB3⟩, by simp [intOf]; omega⟩
  ·
   obtain rfl : n = k := by omega
   go_wp2_with fail
   go_ret
   exact ⟨rfl, hB⟩
theorem two_QB (w : World) (i : Int) (T : ByteArray) (v v' : Value) :
  QB (((w.alloc (.cells #[.int .i64 i, .string T, v] 46)).alloc (.cells #[.int .i64 i, .string T, v'] 46)).drew) w.heap.size i T v ∧
  QB (((w.alloc (.cells #[.int .i64 i, .string T, v] 46)).alloc (.cells #[.int .i64 i, .string T, v'] 46)).drew) (w.heap.size + 1) i T v' ∧
  Below w.heap.size w (((w.alloc (.cells #[.int .i64 i, .string T, v] 46)).alloc (.cells #[.int .i64 i, .string T, v'] 46)).drew) := by
 have h1 := QB.new w i T v
 have h2 := QB.new (w.alloc (.cells #[.int .i64 i, .string T, v] 46)) i T v'
 rw [World.size_alloc] at h2
 exact ⟨h1.below (((Below.refl _ (w.alloc (.cells #[.int .i64 i, .string T, v] 46))).alloc (Nat.le_refl _) _).drew) h1.lt, h2, (((Below.refl _ w).alloc (Nat.le_refl _) _).alloc (by simp) _).drew⟩
set_option maxHeartbeats 16000000 in
theorem same_any (a a' : StA) (S S' : StM) (w : World) (hS : SS w a S) (hS' : SS w a' S') (hok : S.ok) (hok' : S'.ok) (hpl : S.pl = S'.pl) :
  Calls Tryz.prog 19 #[.agg #[.slice a.ga S.G.length a.gc, .slice a.va S.V.length a.vc, .slice a.qa S.Q.length a.qc], .agg #[.slice a'.ga S'.G.length a'.gc, .slice a'.va S'.V.length a'.vc, .slice a'.qa S'.Q.length a'.qc]] w fun e w' => e = .returned (.bool true) ∧ Below w.heap.size w w' := by
 have l1 : S.G.length ≤ maxLen := hok.gl
 have l2 : S.V.length ≤ maxLen := hok.vl
 have l3 : S.Q.length ≤ maxLen := hok.ql
 have HTL : Hid (∀ k (h : k < S.Q.length), S.Q[k].2.2.2.2.length ≤ maxLen) := fun k h => (hok.q _ (List.getElem_mem h)).2.2.1
 have hb1 := (Below.refl _ w).alloc (Nat.le_refl _) (.cells #[.slice a.ga S.G.length a.gc, .slice a.va S.V.length a.vc, .slice a.qa S.Q.length a.qc] 49)
 have hX := SXB.new w a S
 have hY := SXB.new (w.alloc (.cells #[.slice a.ga S.G.length a.gc, .slice a.va S.V.length a.vc, .slice a.qa S.Q.length a.qc] 49)) a' S'
 have hb2 := (Below.refl _ (w.alloc (.cells #[.slice a.ga S.G.length a.gc, .slice a.va S.V.length a.vc, .slice a.qa S.Q.length a.qc] 49))).alloc (Nat.le_refl _) (.cells #[.slice a'.ga S'.G.length a'.gc, .slice a'.va S'.V.length a'.vc, .slice a'.qa S'.Q.length a'.qc] 49)
 have hb := hb1.alloc hb1.size (.cells #[.slice a'.ga S'.G.length a'.gc, .slice a'.va S'.V.length a'.vc, .slice a'.qa S'.Q.length a'.qc] 49)
 have hX1 := hX.below hb2 hX.lt
 have hS0 := hS.below hb (Nat.le_refl _)
 have hS1 := hS'.below hb (Nat.le_refl _)
 have HG := Lib.hid hS0.g
 have HV := Lib.hid hS0.v
 have HQ := Lib.hid hS0.q
 have HG' := Lib.hid hS1.g
 have HV' := Lib.hid hS1.v
 have HQ' := Lib.hid hS1.q
 rw [World.size_alloc] at hY
 have x0 := hX1.c0
 have x1 := hX1.c1
 have x2 := hX1.c2
 have y0 := hY.c0
 have y1 := hY.c1
 have y2 := hY.c2
 have hz0 : w.heap.size < ((w.alloc (.cells #[.slice a.ga S.G.length a.gc, .slice a.va S.V.length a.vc, .slice a.qa S.Q.length a.qc] 49)).alloc (.cells #[.slice a'.ga S'.G.length a'.gc, .slice a'.va S'.V.length a'.vc, .slice a'.qa S'.Q.length a'.qc] 49)).heap.size := by simp; omega
 clear hS hS' hok hok' hX hX1 hY hS0 hS1 hb1 hb2
 obtain ⟨ga, gc, va, vc, qa, qc⟩ := a
 obtain ⟨ga', gc', va', vc', qa', qc'⟩ := a'
 obtain ⟨G, V, Q⟩ := S
 obtain ⟨G', V', Q'⟩ := S'
 unfold StM.pl at hpl
 simp only [StP.mk.injEq] at hpl
 obtain ⟨h1, h2, h3⟩ := hpl
 subst h1 h2
 simp only at x0 x1 x2 y0 y1 y2 l1 l2 l3 HG HV HQ HG' HV' HQ' HTL hb hz0 ⊢
 have hql : Q'.length = Q.length := by have := congrArg List.length h3; rw [List.length_map, List.length_map] at this; exact this.symm
 simp only [hql] at x0 x1 x2 y0 y1 y2 hb HG HV HQ HG' HV' HQ' hz0 ⊢
 obtain ⟨ng, hng⟩ : ∃ n, G.length = n := ⟨_, rfl⟩
 obtain ⟨nw, hnw⟩ : ∃ n, V.length = n := ⟨_, rfl⟩
 obtain ⟨mq, hmq⟩ : ∃ n, Q.length = n := ⟨_, rfl⟩
 simp only [hng, hnw, hmq] at x0 x1 x2 y0 y1 y2 hb HG HV HQ HG' HV' HQ' hz0 ⊢
 rw [hng] at l1; rw [hnw] at l2; rw [hmq] at l3
 have HQE : Hid (∀ k (h : k < Q.length) (h' : k < Q'.length), Q[k].1 = Q'[k].1 ∧ Q[k].2.1 = Q'[k].2.1 ∧ Q[k].2.2.2.2 = Q'[k].2.2.2.2) := fun k h h' => by
  have e : eqp Q[k] = eqp Q'[k] := by
   have e1 : (Q.map eqp)[k]'(by rw [List.length_map]; exact h) = (Q'.map eqp)[k]'(by rw [List.length_map]; exact h') := by simp only [h3]
   rw [List.getElem_map, List.getElem_map] at e1; exact e1
  unfold eqp at e
  simp only [Prod.mk.injEq] at e
  exact ⟨e.1, e.2.1, e.2.2⟩
 have HNG := Lib.hid hng
 have HNV := Lib.hid hnw
 have HNQ := Lib.hid hmq
 have HQL := Lib.hid hql
 have q1 : ((ng : Int) != (ng : Int)) = false := by simp
 have q2 : ((nw : Int) != (nw : Int)) = false := by simp
 have q3 : ((mq : Int) != (mq : Int)) = false := by simp
 unfold maxLen at l1 l2 l3
 clear hng hnw hmq h3 hql
 go_enter Tryz.func19, Tryz.ntmps19
 go_wp2_with fail
 generalize hw0 : World.alloc _ _ = w0 at hb x0 x1 x2 y0 y1 y2 HG HV HQ HG' HV' HQ' hz0 ⊢
 clear hw0
 go_wp2_with fail
 clear q1 q2 q3
 go_loopw [5] (fun v5 wr => ∃ k : Nat, k ≤ ng ∧ v5 = .int .i64 (k : Int) ∧ Below w0.heap.size w0 wr) (fun v5 _ => ng - (intOf v5).toNat)
 case atStart => exact ⟨0, by omega, rfl, Below.refl _ _⟩
 case round =>
  obtain ⟨k, hk, rfl, hB⟩ := hrel
  have d0 := cells_keepL hB (Nat.le_refl _) _ _ x0
  have c0 := cells_keepL hB (Nat.le_refl _) _ _ y0
  by_cases hlt : k < ng
  ·
   have hkG : k < G.length := by rw [HNG.out]; exact hlt
   obtain ⟨b, off, rfl, e0, e1⟩ := (HG.out.keep (cells_keepL hB (Nat.le_refl _))) k hkG
   obtain ⟨b2, off2, rfl, f0, f1⟩ := (HG'.out.keep (cells_keepL hB (Nat.le_refl _))) k hkG
   generalize G[k] = x at e0 e1 f0 f1
   obtain ⟨M, O⟩ := x
   simp only at e0 e1 f0 f1
   clear hkG
   go_wp2_with fail
   go_quiet (fail)
   have hB3 : Below w0.heap.size w0 (wr.drewN nq) := hB.trans ((Below.drewNL _ _ _).mono hB.size)
   generalize World.drewN _ _ = w5 at hB3 ⊢
   go_wp2_with fail
   exact ⟨⟨k + 1, by omega, by go_num, hB3⟩, by simp [intOf]; omega⟩
  ·
   obtain rfl : ng = k := by omega
   go_wp2_with fail
   clear d0 c0
   obtain ⟨wo1, rfl⟩ : ∃ wo : World, wo = wr := ⟨_, rfl⟩
   go_loopw [6] (fun v6 wr => ∃ k : Nat, k ≤ nw ∧ v6 = .int .i64 (k : Int) ∧ Below w0.heap.size w0 wr) (fun v6 _ => nw - (intOf v6).toNat)
   case atStart => exact ⟨0, by omega, rfl, hB⟩
   case round =>
    clear hB
    obtain ⟨k, hk, rfl, hB⟩ := hrel
    have d0 := cells_keepL hB (Nat.le_refl _) _ _ x1
    have c0 := cells_keepL hB (Nat.le_refl _) _ _ y1
    by_cases hlt : k < nw
    ·
     have hkV : k < V.length := by rw [HNV.out]; exact hlt
     obtain ⟨b, off, rfl, e0⟩ := (HV.out.keepL (cells_keepL hB (Nat.le_refl _))) k hkV
     obtain ⟨b2, off2, rfl, f0⟩ := (HV'.out.keepL (cells_keepL hB (Nat.le_refl _))) k hkV
     generalize V[k] = x at e0 f0
     clear hkV
     go_wp2_with fail
     go_quiet (fail)
     have hB3 : Below w0.heap.size w0 (wr.drewN nq) := hB.trans ((Below.drewNL _ _ _).mono hB.size)
     generalize World.drewN _ _ = w5 at hB3 ⊢
     go_wp2_with fail
     exact ⟨⟨k + 1, by omega, by go_num, hB3⟩, by simp [intOf]; omega⟩
    ·
     obtain rfl : nw = k := by omega
     go_wp2_with fail
     clear d0 c0
     obtain ⟨wo2, rfl⟩ : ∃ wo : World, wo = wr := ⟨_, rfl⟩
     go_loopw [7] (fun v7 wr => ∃ k : Nat, k ≤ mq ∧ v7 = .int .i64 (k : Int) ∧ Below w0.heap.size w0 wr) (fun v7 _ => mq - (intOf v7).toNat)
     case atStart => exact ⟨0, by omega, rfl, hB⟩
     case round =>
      clear hB
      obtain ⟨k, hk, rfl, hB⟩ := hrel
      have d0 := cells_keepL hB (Nat.le_refl _) _ _ x2
      have c0 := cells_keepL hB (Nat.le_refl _) _ _ y2
      by_cases hlt : k < mq
      ·
       have hkQ : k < Q.length := by rw [HNQ.out]; exact hlt
       have hkQ' : k < Q'.length := by rw [HQL.out]; exact hkQ
       obtain ⟨b, off, rfl, e0, e1, e2, hT⟩ := (HQ.out.keep (cells_keepL hB (Nat.le_refl _))) k hkQ
       obtain ⟨b2, off2, rfl, f0, f1, f2, hT'⟩ := (HQ'.out.keep (cells_keepL hB (Nat.le_refl _))) k hkQ'
       obtain ⟨r1, r2, r3⟩ := HQE.out k hkQ hkQ'
       have htl := HTL.out k hkQ
       generalize Q[k] = x at e0 e1 e2 hT r1 r2 r3 htl
       generalize Q'[k] = y at f0 f1 f2 hT' r1 r2 r3
       obtain ⟨i, T, ta, tc, L⟩ := x
       obtain ⟨i', T', ta', tc', L'⟩ := y
       simp only at e0 e1 e2 hT f0 f1 f2 hT' r1 r2 r3 htl
       subst r1 r2 r3
       obtain ⟨nt, hnt⟩ : ∃ n, L.length = n := ⟨_, rfl⟩
       rw [hnt] at e2 f2 htl
       unfold maxLen at htl
       have HNT := Lib.hid hnt
       have HT := Lib.hid hT
       have HT' := Lib.hid hT'
       clear hkQ hkQ' hnt hT hT'
       go_wp2_with fail
       go_cut [8, 9] from 72 to 127 (fun v8 v9 wc => ∃ p q : Nat, v8 = .pointer (some ⟨p, 0, none⟩) ∧ v9 = .pointer (some ⟨q, 0, none⟩) ∧ QB wc p i T (.slice ta nt tc) ∧ QB wc q i T (.slice ta' nt tc') ∧ Below wr.heap.size wr wc)
       case first =>
        have HMK := Lib.hid (fun w' (hw : Below wr.heap.size wr w') => (⟨cells_keepL hw (Nat.le_refl _) _ _ d0, cells_keepL hw (Nat.le_refl _) _ _ c0, cells_keepL hw (Nat.le_refl _) _ _ e0, cells_keepL hw (Nat.le_refl _) _ _ e1, cells_keepL hw (Nat.le_refl _) _ _ e2, cells_keepL hw (Nat.le_refl _) _ _ f0, cells_keepL hw (Nat.le_refl _) _ _ f1, cells_keepL hw (Nat.le_refl _) _ _ f2, hw⟩ : w'.cell? ⟨w.heap.size, 2, none⟩ = some (.slice (some ⟨b, off, none⟩) mq qc) ∧ w'.cell? ⟨w.heap.size + 1, 2, none⟩ = some (.slice (some ⟨b2, off2, none⟩) mq qc') ∧ w'.cell? ⟨b, off + k * 3, none⟩ = some (.int .i64 i) ∧ w'.cell? ⟨b, off + k * 3 + 1, none⟩ = some (.string T) ∧ w'.cell? ⟨b, off + k * 3 + 2, none⟩ = some (.slice ta nt tc) ∧ w'.cell? ⟨b2, off2 + k * 3, none⟩ = some (.int .i64 i) ∧ w'.cell? ⟨b2, off2 + k * 3 + 1, none⟩ = some (.string T) ∧ w'.cell? ⟨b2, off2 + k * 3 + 2, none⟩ = some (.slice ta' nt tc') ∧ Below wr.heap.size wr w'))
        go_region_held3 (fun w' => w'.cell? ⟨w.heap.size, 2, none⟩ = some (.slice (some ⟨b, off, none⟩) mq qc) ∧ w'.cell? ⟨w.heap.size + 1, 2, none⟩ = some (.slice (some ⟨b2, off2, none⟩) mq qc') ∧ w'.cell? ⟨b, off + k * 3, none⟩ = some (.int .i64 i) ∧ w'.cell? ⟨b, off + k * 3 + 1, none⟩ = some (.string T) ∧ w'.cell? ⟨b, off + k * 3 + 2, none⟩ = some (.slice ta nt tc) ∧ w'.cell? ⟨b2, off2 + k * 3, none⟩ = some (.int .i64 i) ∧ w'.cell? ⟨b2, off2 + k * 3 + 1, none⟩ = some (.string T) ∧ w'.cell? ⟨b2, off2 + k * 3 + 2, none⟩ = some (.slice ta' nt tc') ∧ Below wr.heap.size wr w')
         (first | assumption | (refine HMK.out _ ?_; repeat' (first | with_reducible exact Below.refl _ _ | with_reducible refine Below.drew ?_ | with_reducible refine Below.alloc ?_ (by first | simp | (simp; omega)) _ | with_reducible refine Below.setCell ?_ (by first | simp | (simp; omega)) _)))
         (fail)
        ·
         have h2 := two_QB wr i T (.slice ta nt tc) (.slice ta' nt tc')
         go_wp2_with fail
         go_meet
         exact ⟨_, _, rfl, rfl, h2.1, h2.2.1, h2.2.2⟩
        ·
         have h2 := two_QB wr i T (.slice ta' nt tc') (.slice ta nt tc)
         go_wp2_with fail
         go_meet
         exact ⟨_, _, rfl, rfl, h2.2.1, h2.1, h2.2.2⟩
       case rest =>
        obtain ⟨p, q, rfl, rfl, hP, hQ, hBc⟩ := hcut
        rename World => wc
        have HTc := Lib.hid (HT.out.keep (cells_keepL hBc (Nat.le_refl _)))
        have HTc' := Lib.hid (HT'.out.keep (cells_keepL hBc (Nat.le_refl _)))
        have hB2 := hB.trans (hBc.mono hB.size)
        have p0 := hP.c0
        have p1 := hP.c1
        have p2 := hP.c2
        have q0 := hQ.c0
        have q1 := hQ.c1
        have q2 := hQ.c2
        have t1 : (i != i) = false := by simp
        have t2 : ((nt : Int) != (nt : Int)) = false := by simp
        clear d0 c0 e0 e1 e2 f0 f1 f2 hBc hB HT HT'
        go_wp2_with fail
        clear t1 t2
        go_loopw [10] (fun v10 wr => ∃ m : Nat, m ≤ nt ∧ v10 = .int .i64 (m : Int) ∧ Below wc.heap.size wc wr) (fun v10 _ => nt - (intOf v10).toNat)
        case atStart => exact ⟨0, by omega, rfl, Below.refl _ _⟩
        case round =>
         obtain ⟨m, hm, rfl, hBm⟩ := hrel
         have r2 := cells_keepL hBm (Nat.le_refl _) _ _ p2
         have s2 := cells_keepL hBm (Nat.le_refl _) _ _ q2
         have hBw := hB2.trans (hBm.mono hB2.size)
         by_cases hlm : m < nt
         ·
          have hmL : m < L.length := by rw [HNT.out]; exact hlm
          obtain ⟨b, off, rfl, e0, e1, e2, e3⟩ := (HTc.out.keep (cells_keepL hBm (Nat.le_refl _))) m hmL
          obtain ⟨b2, off2, rfl, f0, f1, f2, f3⟩ := (HTc'.out.keep (cells_keepL hBm (Nat.le_refl _))) m hmL
          generalize L[m] = x at e0 e1 e2 e3 f0 f1 f2 f3
          obtain ⟨bs, vr, g, E⟩ := x
          simp only at e0 e1 e2 e3 f0 f1 f2 f3
          clear hmL
          go_wp2_with fail
          go_quiet (fail)
          have hB3 : Below wc.heap.size wc (wr.drewN nq) := hBm.trans ((Below.drewNL _ _ _).mono hBm.size)
          generalize World.drewN _ _ = w5 at hB3 ⊢
          go_wp2_with fail
          exact ⟨⟨m + 1, by omega, by go_num, hB3⟩, by simp [intOf]; omega⟩
         ·
          obtain rfl : nt = m := by omega
          go_wp2_with fail
          exact ⟨⟨k + 1, by omega, by go_num, hBw⟩, by simp [intOf]; omega⟩
      ·
       obtain rfl : mq = k := by omega
       have hbw := hb.trans (hB.mono hb.size)
       go_wp2_with fail
       go_ret
       exact ⟨rfl, hbw⟩
end Go.Proofs.YtdhhbjmkdmbffaaGreatDoor

/- slices.Clone of variables and of terms. -/
namespace Go.Proofs.YtdhhbjmkdmbffaaGreatDoor
open Go.RowKit Num
set_option maxRecDepth 20000
set_option linter.unusedVariables false
theorem info_var : (Tryz.prog.info? 40).map (fun i => (i.zero, i.size, i.bytes)) = some (some (.agg #[.string ⟨#[]⟩]), 1, 16) := by kernel_rfl
theorem info_tm : (Tryz.prog.info? 43).map (fun i => (i.zero, i.size, i.bytes)) = some (some (.agg #[.string ⟨#[]⟩, .int .i64 0, .bool false, .string ⟨#[]⟩]), 4, 48) := by kernel_rfl
theorem own_emptyT (w : World) (t : TypeId) (k : Nat) : (w.alloc (.cells #[] t)).ownsRow w.heap.size t k (.slice (some ⟨w.heap.size, 0, none⟩) 0 0) 0 [] := by
 refine ⟨by simp, .inr ⟨w.heap.size, 0, #[], rfl, Nat.le_refl _, heap_alloc_new w _, ?_⟩⟩
 simp
/-- the cells of a slice of variables -/
theorem NS.cellsA {w : World} {A : Addr} {L : List ByteArray} (h : NS w (some A) L) : ∀ j x, (L.map Value.string)[j]? = some x → w.cell? (A.add j) = some x := by
 intro j x hj
 rw [List.getElem?_map] at hj
 obtain ⟨y, hy, rfl⟩ := Option.map_eq_some_iff.1 hj
 obtain ⟨hjl, rfl⟩ := List.getElem?_eq_some_iff.1 hy
 obtain ⟨b, off, he, hc⟩ := h j hjl
 injection he with he
 subst he
 rw [show (⟨b, off, none⟩ : Addr).add j = ⟨b, off + j, none⟩ by unfold Addr.add; split <;> simp_all]
 exact hc
set_option maxHeartbeats 4000000 in
theorem cloneV_any (ao : Option Addr) (n c : Nat) (L : List ByteArray) (w : World) (h : NS w ao L) (hn : L.length = n) (hs : n ≤ 1000) :
  Calls Tryz.prog 43 #[.slice ao n c] w fun e w' => ∃ v, e = .returned v ∧ w'.ownsRow w.heap.size 40 1 v n (L.map Value.string) ∧ Below w.heap.size w w' := by
 obtain ⟨i0, hi, hz0, hz1, hz2⟩ := info_parts info_var
 cases ao with
 | none =>
  have hL : L = [] := by
   cases L with
   | nil => rfl
   | cons x r => obtain ⟨b, off, he, _⟩ := h 0 (by simp); cases he
  subst hL
  subst hn
  clear hi hz0 hz1 hz2 h
  have HE : ∀ w, (binOp .eql 41 (.slice none 0 c) (.slice none 0 0)).run Tryz.prog w = .ok (.bool true) w := fun w => Lib.run_eql_slice_nil w _ _ none 0 c 0 0 Tryz.underlying41
  go_enter Tryz.func43, Tryz.ntmps43
  go_wp2_with fail
  go_ret
  exact ⟨_, rfl, ⟨rfl, .inl ⟨rfl, rfl⟩⟩, Below.refl _ _⟩
 | some A =>
  have p1 := (Below.refl _ w).alloc (Nat.le_refl _) (.cells #[] 40)
  have HC := Lib.hid (h.keepL (cells_keepL p1 (Nat.le_refl _))).cellsA
  have HN := Lib.hid hn
  clear h hn
  have HE : ∀ w, (binOp .eql 41 (.slice (some A) n c) (.slice none 0 0)).run Tryz.prog w = .ok (.bool false) w := fun w => Lib.run_eql_slice_nil w _ _ (some A) n c 0 0 Tryz.underlying41
  go_enter Tryz.func43, Tryz.ntmps43
  go_wp2_with (at_builtin; refine wpList_append_own _ rfl (.tmp 5) (.tmp 6) 41 rfl w.heap.size 40 i0 (.agg #[.string ⟨#[]⟩]) 1 16 Tryz.underlying41 hi hz0 hz1 hz2 rfl (by decide) (.slice (some ⟨w.heap.size, 0, none⟩) 0 0) 0 [] rfl (own_emptyT w _ _) A n c (L.map Value.string) rfl (by rw [List.length_map, HN.out]; omega) HC.out ?o1 (by unfold maxLen; omega) (by omega) (by simp) ?_; (case o1 => (intro x hx; obtain ⟨y, _, rfl⟩ := List.mem_map.1 hx; simp [Value.oneCell'])); intro v' w5 hown5 hgrow5 hnn; have p2 : Below w.heap.size w w5 := p1.grown hgrow5 (by simp) (fun k e => by have e2 : some w.heap.size = some k := e; injection e2 with e2; omega))
  rw [List.nil_append, Nat.zero_add] at hown5
  clear hi hz0 hz1 hz2 HC hgrow5 hnn p1
  go_wp2_with fail
  go_ret
  exact ⟨_, rfl, hown5, p2⟩
/-- the cells of a slice of terms -/
def tcl : List TmR → List Value
 | [] => []
 | t :: r => .string t.1 :: .int .i64 t.2.1 :: .bool t.2.2.1 :: .string t.2.2.2 :: tcl r
theorem tcl_len : ∀ L : List TmR, (tcl L).length = L.length * 4
 | [] => rfl
 | t :: r => by simp only [tcl, List.length_cons, tcl_len r]; omega
theorem tcl_one : ∀ (L : List TmR) (x : Value), x ∈ tcl L → Value.oneCell' x = true
 | [], x, h => by cases h
 | t :: r, x, h => by
  simp only [tcl, List.mem_cons] at h
  rcases h with rfl | rfl | rfl | rfl | h
  ·
   rfl
  ·
   rfl
  ·
   rfl
  ·
   rfl
  ·
   exact tcl_one r x h
theorem tcl_get : ∀ (L : List TmR) (k : Nat) (h : k < L.length), (tcl L)[k * 4]? = some (.string L[k].1) ∧ (tcl L)[k * 4 + 1]? = some (.int .i64 L[k].2.1) ∧ (tcl L)[k * 4 + 2]? = some (.bool L[k].2.2.1) ∧ (tcl L)[k * 4 + 3]? = some (.string L[k].2.2.2)
 | [], k, h => by simp at h
 | t :: L, 0, _ => ⟨rfl, rfl, rfl, rfl⟩
 | t :: L, k + 1, h => by
  have ih := tcl_get L k (by simpa using h)
  have e : ∀ j, (tcl (t :: L))[(k + 1) * 4 + j]? = (tcl L)[k * 4 + j]? := fun j => by
   show (_ :: _ :: _ :: _ :: tcl L)[(k + 1) * 4 + j]? = _
   rw [show (k + 1) * 4 + j = k * 4 + j + 1 + 1 + 1 + 1 by omega, List.getElem?_cons_succ, List.getElem?_cons_succ, List.getElem?_cons_succ, List.getElem?_cons_succ]
  have e0 := e 0
  rw [Nat.add_zero, Nat.add_zero] at e0
  rw [e0, e 1, e 2, e 3]
  exact ih
theorem tcl_inv : ∀ (L : List TmR) (j : Nat) (x : Value), (tcl L)[j]? = some x → ∃ k, ∃ h : k < L.length, (j = k * 4 ∧ x = .string L[k].1) ∨ (j = k * 4 + 1 ∧ x = .int .i64 L[k].2.1) ∨ (j = k * 4 + 2 ∧ x = .bool L[k].2.2.1) ∨ (j = k * 4 + 3 ∧ x = .string L[k].2.2.2) := fun L j x hx => by
 have hj := (List.getElem?_eq_some_iff.1 hx).1
 rw [tcl_len] at hj
 have hk : j / 4 < L.length := by omega
 obtain ⟨g0, g1, g2, g3⟩ := tcl_get L (j / 4) hk
 refine ⟨j / 4, hk, ?_⟩
 have h4 : j % 4 = 0 ∨ j % 4 = 1 ∨ j % 4 = 2 ∨ j % 4 = 3 := by omega
 rcases h4 with h | h | h | h
 ·
  have e : j = j / 4 * 4 := by omega
  rw [e, g0] at hx; injection hx with hx; exact .inl ⟨e, hx.symm⟩
 ·
  have e : j = j / 4 * 4 + 1 := by omega
  rw [e, g1] at hx; injection hx with hx; exact .inr (.inl ⟨e, hx.symm⟩)
 ·
  have e : j = j / 4 * 4 + 2 := by omega
  rw [e, g2] at hx; injection hx with hx; exact .inr (.inr (.inl ⟨e, hx.symm⟩))
 ·
  have e : j = j / 4 * 4 + 3 := by omega
  rw [e, g3] at hx; injection hx with hx; exact .inr (.inr (.inr ⟨e, hx.symm⟩))
theorem addr_addT (b off j : Nat) : (⟨b, off, none⟩ : Addr).add j = ⟨b, off + j, none⟩ := by unfold Addr.add; split <;> simp_all
theorem TSl.cellsA {w : World} {A : Addr} {L : List TmR} (h : TSl w (some A) L) : ∀ j x, (tcl L)[j]? = some x → w.cell? (A.add j) = some x := by
 intro j x hj
 obtain ⟨k, hk, hh⟩ := tcl_inv L j x hj
 obtain ⟨b, off, he, c0, c1, c2, c3⟩ := h k hk
 injection he with he
 subst he
 rw [addr_addT]
 rcases hh with ⟨rfl, rfl⟩ | ⟨rfl, rfl⟩ | ⟨rfl, rfl⟩ | ⟨rfl, rfl⟩
 ·
  exact c0
 ·
  exact c1
 ·
  exact c2
 ·
  exact c3
theorem own_TSl {W : World} {K n : Nat} {e : TypeId} {v : Value} {L : List TmR} (h : W.ownsRow K e 4 v n (tcl L)) : ∃ ao c, v = .slice ao n c ∧ TSl W ao L := by
 have hlen : L.length = n := by have := h.1; rw [tcl_len] at this; omega
 have hh := h
 rcases h.2 with ⟨h1, h2⟩ | ⟨g, cap, cur, rfl, _⟩
 ·
  subst h2
  exact ⟨none, 0, h1, fun k hk => by omega⟩
 ·
  refine ⟨_, cap, rfl, fun k hk => ⟨g, 0, rfl, ?_, ?_, ?_, ?_⟩⟩
  ·
   have := hh.cells (g := g) rfl (k * 4) _ (tcl_get L k hk).1
   rw [addr_add] at this
   rw [Nat.zero_add]; exact this
  ·
   have := hh.cells (g := g) rfl (k * 4 + 1) _ (tcl_get L k hk).2.1
   rw [addr_add] at this
   rw [Nat.zero_add]; exact this
  ·
   have := hh.cells (g := g) rfl (k * 4 + 2) _ (tcl_get L k hk).2.2.1
   rw [addr_add] at this
   rw [Nat.zero_add]; exact this
  ·
   have := hh.cells (g := g) rfl (k * 4 + 3) _ (tcl_get L k hk).2.2.2
   rw [addr_add] at this
   rw [Nat.zero_add]; exact this
set_option maxHeartbeats 4000000 in
theorem cloneT_any (ao : Option Addr) (n c : Nat) (L : List TmR) (w : World) (h : TSl w ao L) (hn : L.length = n) (hs : n ≤ 1000) :
  Calls Tryz.prog 92 #[.slice ao n c] w fun e w' => ∃ v, e = .returned v ∧ w'.ownsRow w.heap.size 43 4 v n (tcl L) ∧ Below w.heap.size w w' := by
 obtain ⟨i0, hi, hz0, hz1, hz2⟩ := info_parts info_tm
 cases ao with
 | none =>
  have hL : L = [] := by
   cases L with
   | nil => rfl
   | cons x r => obtain ⟨b, off, he, _⟩ := h 0 (by simp); cases he
  subst hL
  subst hn
  clear hi hz0 hz1 hz2 h
  have HE : ∀ w, (binOp .eql 44 (.slice none 0 c) (.slice none 0 0)).run Tryz.prog w = .ok (.bool true) w := fun w => Lib.run_eql_slice_nil w _ _ none 0 c 0 0 Tryz.underlying44
  go_enter Tryz.func92, Tryz.ntmps92
  go_wp2_with fail
  go_ret
  exact ⟨_, rfl, ⟨rfl, .inl ⟨rfl, rfl⟩⟩, Below.refl _ _⟩
 | some A =>
  have p1 := (Below.refl _ w).alloc (Nat.le_refl _) (.cells #[] 43)
  have HC := Lib.hid (h.keep (cells_keepL p1 (Nat.le_refl _))).cellsA
  have HN := Lib.hid hn
  clear h hn
  have HE : ∀ w, (binOp .eql 44 (.slice (some A) n c) (.slice none 0 0)).run Tryz.prog w = .ok (.bool false) w := fun w => Lib.run_eql_slice_nil w _ _ (some A) n c 0 0 Tryz.underlying44
  go_enter Tryz.func92, Tryz.ntmps92
  go_wp2_with (at_builtin; refine wpList_append_own _ rfl (.tmp 5) (.tmp 6) 44 rfl w.heap.size 43 i0 (.agg #[.string ⟨#[]⟩, .int .i64 0, .bool false, .string ⟨#[]⟩]) 4 48 Tryz.underlying44 hi hz0 hz1 hz2 rfl (by decide) (.slice (some ⟨w.heap.size, 0, none⟩) 0 0) 0 [] rfl (own_emptyT w _ _) A n c (tcl L) rfl (by rw [tcl_len, HN.out]) HC.out (tcl_one L) (by unfold maxLen; omega) (by omega) (by simp) ?_; intro v' w5 hown5 hgrow5 hnn; have p2 : Below w.heap.size w w5 := p1.grown hgrow5 (by simp) (fun k e => by have e2 : some w.heap.size = some k := e; injection e2 with e2; omega))
  rw [List.nil_append, Nat.zero_add] at hown5
  clear hi hz0 hz1 hz2 HC hgrow5 hnn p1
  go_wp2_with fail
  go_ret
  exact ⟨_, rfl, hown5, p2⟩
end Go.Proofs.YtdhhbjmkdmbffaaGreatDoor

/- linear.cloned. -/
namespace Go.Proofs.YtdhhbjmkdmbffaaGreatDoor
open Go.RowKit Num
set_option maxRecDepth 20000
set_option linter.unusedVariables false
section
variable {W : World} {b : Nat}
theorem QB.f0 {i : Int} {s : ByteArray} {v : Value} (h : QB W b i s v) : W.frozen? ⟨b, 0, none⟩ = false := Lib.frozen_of_heap h 0
theorem QB.f1 {i : Int} {s : ByteArray} {v : Value} (h : QB W b i s v) : W.frozen? ⟨b, 1, none⟩ = false := Lib.frozen_of_heap h 1
theorem QB.f2 {i : Int} {s : ByteArray} {v : Value} (h : QB W b i s v) : W.frozen? ⟨b, 2, none⟩ = false := Lib.frozen_of_heap h 2
theorem QB.drewQ {i : Int} {s : ByteArray} {v : Value} (h : QB W b i s v) : QB W.drew b i s v := h
theorem QB.putQ {i j : Int} {s s' : ByteArray} {v v' : Value} (h : QB W b i s v) : QB (((W.setCell ⟨b, 0, none⟩ (.int .i64 j)).setCell ⟨b, 1, none⟩ (.string s')).setCell ⟨b, 2, none⟩ v') b j s' v' := put1 (put1 (put1 h))
theorem put3 {a0 a1 a2 v0 v1 v2 : Value} {t : TypeId} (h : W.heap[b]? = some (.cells #[a0, a1, a2] t (0, 0))) :
  (((W.setCell ⟨b, 0, none⟩ v0).setCell ⟨b, 1, none⟩ v1).setCell ⟨b, 2, none⟩ v2).heap[b]? = some (.cells #[v0, v1, v2] t (0, 0)) := put1 (put1 (put1 h))
theorem info_eqn : (Tryz.prog.info? 46).map (·.size) = some 3 := by kernel_rfl
theorem bodyPost_eqn {fn : Func} {R : Ending → World → Prop} {p : Tmp} {a : Act} {v0 v1 v2 : Value} (h : fn.results = #[.cell p 46]) (hp : a.tmps.getD p undef = .pointer (some ⟨b, 0, none⟩))
  (hb : W.heap[b]? = some (.cells #[v0, v1, v2] 46 (0, 0))) (hd : a.defers = []) (hR : R (.returned (.agg #[v0, v1, v2])) W) : bodyPost Tryz.prog fn R Exit.ret a W :=
 bodyPost_ret (results_cell_row h _ _ b _ _ (0, 0) _ hp hb Tryz.underlying46 rfl info_eqn) hd hR
end
theorem neqNilI (w : World) : (binOp .neq 71 (.slice none 0 0) (.slice none 0 0)).run Tryz.prog w = .ok (.bool false) w := by kernel_rfl
theorem TSl.setNe {w : World} {a : Option Addr} {L : List TmR} {c j : Nat} {v : Value} (h : TSl w a L) (hne : ∀ b off, a = some ⟨b, off, none⟩ → b ≠ c) : TSl (w.setCell ⟨c, j, none⟩ v) a L := fun k hk => by
 obtain ⟨b, off, he, c0, c1, c2, c3⟩ := h k hk
 have e : ∀ o : Nat, (w.setCell ⟨c, j, none⟩ v).cell? ⟨b, o, none⟩ = w.cell? ⟨b, o, none⟩ := fun o => World.cell?_of_block (w := w) (Below.heap_setCell w ⟨c, j, none⟩ v b (hne b off he))
 exact ⟨b, off, he, (e _).trans c0, (e _).trans c1, (e _).trans c2, (e _).trans c3⟩
/-- the terms lie in a block of terms -/
def TmO (w : World) (ao : Option Addr) : Prop := ∀ b off, ao = some ⟨b, off, none⟩ → ∃ cur, w.heap[b]? = some (.cells cur 43 (0, 0))
theorem TmO.set3 {w : World} {ao : Option Addr} {c : Nat} {x y z : Value} (h : TmO w ao) (hne : ∀ b off, ao = some ⟨b, off, none⟩ → b ≠ c) : TmO (((w.setCell ⟨c, 0, none⟩ x).setCell ⟨c, 1, none⟩ y).setCell ⟨c, 2, none⟩ z) ao := fun b off he => by
 obtain ⟨cur, h1⟩ := h b off he
 have g3 := hne b off he
 exact ⟨cur, (Below.heap_setCell _ _ _ b g3).trans ((Below.heap_setCell _ _ _ b g3).trans ((Below.heap_setCell _ _ _ b g3).trans h1))⟩
theorem cloneT_sl2 (ao : Option Addr) (n c : Nat) (L : List TmR) (w : World) (h : TSl w ao L) (hn : L.length = n) (hs : n ≤ 1000) :
  Calls Tryz.prog 92 #[.slice ao n c] w fun e w' => ∃ bo c', e = .returned (.slice bo n c') ∧ TSl w' bo L ∧ (∀ b off, bo = some ⟨b, off, none⟩ → w.heap.size ≤ b ∧ ∃ cur, w'.heap[b]? = some (.cells cur 43 (0, 0))) ∧ Below w.heap.size w w' :=
 (cloneT_any ao n c L w h hn hs).mono fun e w' ⟨v, h1, h2, h3⟩ => by
  obtain ⟨bo, c', rfl, h4⟩ := own_TSl h2
  refine ⟨bo, c', h1, h4, fun b off he => ⟨(own_ge h2 b (by rw [he]; rfl)).1, ?_⟩, h3⟩
  rcases h2.2 with ⟨h5, h6⟩ | ⟨g, cap, cur, h6, h7, h8, _⟩
  ·
   rw [he] at h5; cases h5
  ·
   injection h6 with h6 _ _
   rw [he] at h6
   injection h6 with h6
   injection h6 with h6 _ _
   subst h6
   exact ⟨cur, h8⟩
set_option maxHeartbeats 8000000 in
theorem cloned0_any (i g : Int) (T : ByteArray) (ta : Option Addr) (nt tc : Nat) (L : List TmR) (w : World) (hT : TSl w ta L) (hn : L.length = nt) (hs : nt ≤ 64) (hw : IntKind.i64.wrap (i + g) = i + g) :
  Calls Tryz.prog 44 #[.agg #[.int .i64 i, .string T, .slice ta nt tc], .int .i64 g, .slice none 0 0] w fun e w' => ∃ ao c', e = .returned (.agg #[.int .i64 (i + g), .string T, .slice ao nt c']) ∧ TSl w' ao L ∧ TmO w' ao ∧ Below w.heap.size w w' := by
 have hb1 := (Below.refl _ w).alloc (Nat.le_refl _) (.cells #[.int .i64 i, .string T, .slice ta nt tc] 46)
 have hP := QB.new w i T (.slice ta nt tc)
 have hR := QB.new (w.alloc (.cells #[.int .i64 i, .string T, .slice ta nt tc] 46)) 0 ⟨#[]⟩ (.slice none 0 0)
 have hb := hb1.alloc hb1.size (.cells #[.int .i64 0, .string ⟨#[]⟩, .slice none 0 0] 46)
 have hP1 := hP.below ((Below.refl _ (w.alloc (.cells #[.int .i64 i, .string T, .slice ta nt tc] 46))).alloc (Nat.le_refl _) (.cells #[.int .i64 0, .string ⟨#[]⟩, .slice none 0 0] 46)) hP.lt
 rw [World.size_alloc] at hR
 have HT := Lib.hid (hT.keep (cells_keepL hb (Nat.le_refl _)))
 have HN := Lib.hid hn
 have HE := neqNilI
 clear hT hn hb1 hP
 go_enter Tryz.func44, Tryz.ntmps44
 go_wp2_with fail
 generalize hw0 : World.alloc _ _ = w0 at hb hP1 hR HT ⊢
 clear hw0
 have p0 := hP1.c0
 have p1 := hP1.c1
 have p2 := hP1.c2
 have HCL := Lib.hid (fun w' (hb' : Below w0.heap.size w0 w') => cloneT_sl2 ta nt tc L w' (HT.out.keep (cells_keepL hb' (Nat.le_refl _))) HN.out (by omega))
 go_cut [7] from 10 to 41 (fun v7 wc => ∃ (p : Nat) (ao : Option Addr) (c' : Nat), v7 = .pointer (some ⟨p, 0, none⟩) ∧ QB wc p (i + g) T (.slice ao nt c') ∧ TSl wc ao L ∧ (∀ b off, ao = some ⟨b, off, none⟩ → w0.heap.size ≤ b ∧ p ≠ b ∧ ∃ cur, wc.heap[b]? = some (.cells cur 43 (0, 0))) ∧ Below w0.heap.size w0 wc)
 case first =>
  have HMK := Lib.hid (fun w' (hw : Below w0.heap.size w0 w') => (⟨cells_keepL hw (Nat.le_refl _) _ _ p0, cells_keepL hw (Nat.le_refl _) _ _ p1, cells_keepL hw (Nat.le_refl _) _ _ p2, hw⟩ : w'.cell? ⟨w.heap.size, 0, none⟩ = some (.int .i64 i) ∧ w'.cell? ⟨w.heap.size, 1, none⟩ = some (.string T) ∧ w'.cell? ⟨w.heap.size, 2, none⟩ = some (.slice ta nt tc) ∧ Below w0.heap.size w0 w'))
  go_region_held3 (fun w' => w'.cell? ⟨w.heap.size, 0, none⟩ = some (.int .i64 i) ∧ w'.cell? ⟨w.heap.size, 1, none⟩ = some (.string T) ∧ w'.cell? ⟨w.heap.size, 2, none⟩ = some (.slice ta nt tc) ∧ Below w0.heap.size w0 w')
   (first | assumption | (refine HMK.out _ ?_; repeat' (first | assumption | with_reducible exact Below.refl _ _ | with_reducible refine Below.drew ?_ | with_reducible refine Below.alloc ?_ (by first | simp | (simp; omega) | exact hbn.size) _ | with_reducible refine Below.setCell ?_ (by first | simp | (simp; omega)) _)))
   ((go_at_call 92; (first | (with_reducible refine (HCL.out _ (Below.refl _ _).drew).mono ?_) | (with_reducible refine (HCL.out _ ((Below.refl _ w0).alloc (Nat.le_refl _) _).drew).mono ?_)); rintro e wn ⟨ao, c', rfl, hts, hge, bn⟩; (first | (have hbn : Below w0.heap.size w0 wn := (Below.refl _ w0).drew.trans (bn.mono (Nat.le_refl _)); have hrn := trivial) | (have hbn : Below w0.heap.size w0 wn := ((Below.refl _ w0).alloc (Nat.le_refl _) (.cells #[.int .i64 0, .string ⟨#[]⟩, .slice none 0 0] 46)).drew.trans (bn.mono (by simp)); have hrn := (QB.new w0 0 ⟨#[]⟩ (.slice none 0 0)).drewQ.below bn (QB.new w0 0 ⟨#[]⟩ (.slice none 0 0)).lt; have x0 := hrn.c0; have x1 := hrn.c1; have x2 := hrn.c2; have x3 := hrn.f0; have x4 := hrn.f1; have x5 := hrn.f2))))
  ·
   have hS := HMK.out _ (hbn.alloc hbn.size (.cells #[.int .i64 (i + g), .string T, .slice ao nt c'] 46))
   have hq := QB.new wn (i + g) T (.slice ao nt c')
   have hts2 := hts.keep (cells_keepL ((Below.refl _ wn).alloc (Nat.le_refl _) (.cells #[.int .i64 (i + g), .string T, .slice ao nt c'] 46)) (Nat.le_refl _))
   go_wp2_with fail
   go_meet
   exact ⟨_, _, _, rfl, hq, hts2, fun b off he => by
    obtain ⟨g1, cur, g2⟩ := hge b off he
    have g3 := (Array.getElem?_eq_some_iff.1 g2).1
    exact ⟨by simpa using g1, by omega, cur, (Below.heap_alloc _ _ _ g3).trans g2⟩, hS.2.2.2⟩
  ·
   have hne : ∀ b off, ao = some ⟨b, off, none⟩ → b ≠ w0.heap.size := fun b off he => by have := (hge b off he).1; simp at this; omega
   have hS := ((hbn.setCell (p := ⟨w0.heap.size, 0, none⟩) (Nat.le_refl _) (.int .i64 (i + g))).setCell (p := ⟨w0.heap.size, 1, none⟩) (Nat.le_refl _) (.string T)).setCell (p := ⟨w0.heap.size, 2, none⟩) (Nat.le_refl _) (.slice ao nt c')
   have hq := hrn.putQ (j := i + g) (s' := T) (v' := .slice ao nt c')
   have hts2 := ((hts.setNe hne (j := 0) (v := .int .i64 (i + g))).setNe hne (j := 1) (v := .string T)).setNe hne (j := 2) (v := .slice ao nt c')
   go_wp2_with fail
   go_meet
   exact ⟨_, _, _, rfl, hq, hts2, fun b off he => by
    obtain ⟨g1, cur, g2⟩ := hge b off he
    have g3 := hne b off he
    simp at g1
    exact ⟨by omega, Ne.symm g3, cur, (Below.heap_setCell _ _ _ b g3).trans ((Below.heap_setCell _ _ _ b g3).trans ((Below.heap_setCell _ _ _ b g3).trans g2))⟩, hS⟩
 case rest =>
  obtain ⟨p, ao, c', rfl, hq, hts, hge, hBc⟩ := hcut
  rename World => wc
  have hR1 := hR.below hBc hR.lt
  have hbc := hb.trans (hBc.mono hb.size)
  have HTS := Lib.hid hts
  have q2 := hq.c2
  clear p0 p1 p2 HCL HT hts
  go_wp2_with fail
  go_loopw [23] (fun v23 wr => ∃ k : Nat, k ≤ nt ∧ v23 = .int .i64 (k : Int) ∧ Below wc.heap.size wc wr) (fun v23 _ => nt - (intOf v23).toNat)
  case atStart => exact ⟨0, by omega, rfl, Below.refl _ _⟩
  case round =>
   obtain ⟨k, hk, rfl, hB⟩ := hrel
   have d2 := cells_keepL hB (Nat.le_refl _) _ _ q2
   by_cases hlt : k < nt
   ·
    have hkL : k < L.length := by rw [HN.out]; exact hlt
    obtain ⟨b, off, rfl, e0, e1, e2, e3⟩ := (HTS.out.keep (cells_keepL hB (Nat.le_refl _))) k hkL
    generalize L[k] = x at e0 e1 e2 e3
    obtain ⟨bs, vr, gg, E⟩ := x
    simp only at e0 e1 e2 e3
    have hB3 := hB.alloc hB.size (.cells #[.string bs, .int .i64 vr, .bool gg, .string E] 43)
    clear hkL
    go_wp2_with fail
    exact ⟨⟨k + 1, by omega, by go_num, hB3⟩, by simp [intOf]; omega⟩
   ·
    obtain rfl : nt = k := by omega
    have r1 := hR1.below hB hR1.lt
    have q1 := hq.below hB hq.lt
    have f0 := r1.f0
    have f1 := r1.f1
    have f2 := r1.f2
    have g0 := r1.c0
    have g1 := r1.c1
    have g2 := r1.c2
    have k0 := q1.c0
    have k1 := q1.c1
    have k2 := q1.c2
    have hbw := hbc.trans (hB.mono hbc.size)
    have hz := hR.lt
    have hne : ∀ b off, ao = some ⟨b, off, none⟩ → b ≠ w.heap.size + 1 := fun b off he => by have := (hge b off he).1; omega
    have HTO : Hid (TmO wr ao) := fun b off he => by
     obtain ⟨_, _, cur, g2⟩ := hge b off he
     exact ⟨cur, (hB.block b (Array.getElem?_eq_some_iff.1 g2).1).trans g2⟩
    have HTO3 := Lib.hid (fun x y z => HTO.out.set3 (x := x) (y := y) (z := z) hne)
    have HT2 := Lib.hid (fun x => (((HTS.out.keep (cells_keepL hB (Nat.le_refl _))).setNe hne (j := 0) (v := .int .i64 (i + g))).setNe hne (j := 1) (v := .string T)).setNe hne (j := 2) (v := x))
    clear hne hge hz HTO
    go_wp2_with fail
    refine bodyPost_eqn rfl rfl (put3 r1) rfl ⟨_, _, rfl, HT2.out _, HTO3.out _ _ _, ?_⟩
    exact ((hbw.setCell (p := ⟨w.heap.size + 1, 0, none⟩) (by simp) _).setCell (p := ⟨w.heap.size + 1, 1, none⟩) (by simp) _).setCell (p := ⟨w.heap.size + 1, 2, none⟩) (by simp) _
end Go.Proofs.YtdhhbjmkdmbffaaGreatDoor

/- linear.cloned with places: the plain part. -/
namespace Go.Proofs.YtdhhbjmkdmbffaaGreatDoor
open Go.RowKit Num
set_option maxRecDepth 20000
set_option linter.unusedVariables false
/-- a term with another place -/
def clT (J : List Int) (t : TmR) : TmR := (t.1, J.getD t.2.1.toNat 0, t.2.2)
/-- the first k terms have their places replaced -/
def clL (J : List Int) (L : List TmR) (k : Nat) : List TmR := (L.take k).map (clT J) ++ L.drop k
theorem clL_len (J : List Int) (L : List TmR) (k : Nat) : (clL J L k).length = L.length := by
 unfold clL; rw [List.length_append, List.length_map, List.length_take, List.length_drop]; omega
theorem clL_zero (J : List Int) (L : List TmR) : clL J L 0 = L := by simp [clL]
theorem clL_all (J : List Int) (L : List TmR) : clL J L L.length = L.map (clT J) := by simp [clL]
theorem clL_at (J : List Int) (L : List TmR) {k : Nat} (h : k < L.length) (h' : k < (clL J L k).length) : (clL J L k)[k] = L[k] := by
 have e : (clL J L k)[k]? = some L[k] := by
  unfold clL
  rw [List.getElem?_append_right (by rw [List.length_map, List.length_take]; omega), List.length_map, List.length_take, List.getElem?_drop, show k + (k - min k L.length) = k by omega, List.getElem?_eq_getElem h]
 rw [List.getElem?_eq_getElem h'] at e
 injection e
theorem clL_succ (J : List Int) (L : List TmR) {k : Nat} (h : k < L.length) : (clL J L k).set k (clT J L[k]) = clL J L (k + 1) := by
 unfold clL
 have hl : ((L.take k).map (clT J)).length = k := by rw [List.length_map, List.length_take]; omega
 rw [List.set_append_right _ _ (by omega), hl, Nat.sub_self, List.drop_eq_getElem_cons h, List.set_cons_zero, List.take_succ_eq_append_getElem h, List.map_append, List.append_assoc]
 rfl
theorem TSl.setVar {w : World} {b off k : Nat} {L : List TmR} {x : Int} (h : TSl w (some ⟨b, off, none⟩) L) (hk : k < L.length) : TSl (w.setCell ⟨b, off + k * 4 + 1, none⟩ (.int .i64 x)) (some ⟨b, off, none⟩) (L.set k (L[k].1, x, L[k].2.2)) := fun i hi => by
 have hi' : i < L.length := by rw [List.length_set] at hi; exact hi
 obtain ⟨b', off', he, c0, c1, c2, c3⟩ := h i hi'
 injection he with he
 injection he with he1 he2 _
 subst he1 he2
 have e : ∀ o : Nat, o ≠ off + k * 4 + 1 → (w.setCell ⟨b, off + k * 4 + 1, none⟩ (.int .i64 x)).cell? ⟨b, o, none⟩ = w.cell? ⟨b, o, none⟩ := fun o ho => World.cell?_setCell_other _ _ _ _ (by intro e; injection e with _ e _; exact ho e.symm)
 by_cases hik : i = k
 ·
  subst hik
  rw [List.getElem_set_self]
  exact ⟨b, off, rfl, (e _ (by omega)).trans c0, World.cell?_setCell_same _ _ _ c1, (e _ (by omega)).trans c2, (e _ (by omega)).trans c3⟩
 ·
  rw [List.getElem_set_ne (Ne.symm hik)]
  exact ⟨b, off, rfl, (e _ (by omega)).trans c0, (e _ (by omega)).trans c1, (e _ (by omega)).trans c2, (e _ (by omega)).trans c3⟩
end Go.Proofs.YtdhhbjmkdmbffaaGreatDoor

/- linear.cloned with places. -/
namespace Go.Proofs.YtdhhbjmkdmbffaaGreatDoor
open Go.RowKit Num
set_option maxRecDepth 20000
set_option linter.unusedVariables false
set_option maxHeartbeats 8000000 in
theorem clonedV_any (J : List Int) (vs : Option Addr) (m cc : Nat) (i g : Int) (T : ByteArray) (ta : Option Addr) (nt tc : Nat) (L : List TmR) (w : World) (hT : TSl w ta L) (hn : L.length = nt) (hs : nt ≤ 64) (hw : IntKind.i64.wrap (i + g) = i + g) (hJ : LI w vs J) (hm : J.length = m) (hm1 : m ≤ maxLen) (hv : ∀ t ∈ L, ∃ h : Nat, t.2.1 = (h : Int) ∧ h < m) :
  Calls Tryz.prog 44 #[.agg #[.int .i64 i, .string T, .slice ta nt tc], .int .i64 g, .slice vs m cc] w fun e w' => ∃ ao c', e = .returned (.agg #[.int .i64 (i + g), .string T, .slice ao nt c']) ∧ TSl w' ao (L.map (clT J)) ∧ TmO w' ao ∧ Below w.heap.size w w' := by
 have hb1 := (Below.refl _ w).alloc (Nat.le_refl _) (.cells #[.int .i64 i, .string T, .slice ta nt tc] 46)
 have hP := QB.new w i T (.slice ta nt tc)
 have hR := QB.new (w.alloc (.cells #[.int .i64 i, .string T, .slice ta nt tc] 46)) 0 ⟨#[]⟩ (.slice none 0 0)
 have hb := hb1.alloc hb1.size (.cells #[.int .i64 0, .string ⟨#[]⟩, .slice none 0 0] 46)
 have hP1 := hP.below ((Below.refl _ (w.alloc (.cells #[.int .i64 i, .string T, .slice ta nt tc] 46))).alloc (Nat.le_refl _) (.cells #[.int .i64 0, .string ⟨#[]⟩, .slice none 0 0] 46)) hP.lt
 rw [World.size_alloc] at hR
 have HT := Lib.hid (hT.keep (cells_keepL hb (Nat.le_refl _)))
 have HN := Lib.hid hn
 have HJ := Lib.hid (hJ.keep (cells_keepL hb (Nat.le_refl _)))
 have HM := Lib.hid hm
 have HVV := Lib.hid hv
 unfold maxLen at hm1
 clear hT hn hb1 hP hJ hm hv
 go_enter Tryz.func44, Tryz.ntmps44
 go_wp2_with fail
 generalize hw0 : World.alloc _ _ = w0 at hb hP1 hR HT HJ ⊢
 clear hw0
 have p0 := hP1.c0
 have p1 := hP1.c1
 have p2 := hP1.c2
 have HCL := Lib.hid (fun w' (hb' : Below w0.heap.size w0 w') => cloneT_sl2 ta nt tc L w' (HT.out.keep (cells_keepL hb' (Nat.le_refl _))) HN.out (by omega))
 go_cut [7] from 10 to 41 (fun v7 wc => ∃ (p : Nat) (ao : Option Addr) (c' : Nat), v7 = .pointer (some ⟨p, 0, none⟩) ∧ QB wc p (i + g) T (.slice ao nt c') ∧ TSl wc ao L ∧ (∀ b off, ao = some ⟨b, off, none⟩ → w0.heap.size ≤ b ∧ p ≠ b ∧ ∃ cur, wc.heap[b]? = some (.cells cur 43 (0, 0))) ∧ Below w0.heap.size w0 wc)
 case first =>
  have HMK := Lib.hid (fun w' (hw : Below w0.heap.size w0 w') => (⟨cells_keepL hw (Nat.le_refl _) _ _ p0, cells_keepL hw (Nat.le_refl _) _ _ p1, cells_keepL hw (Nat.le_refl _) _ _ p2, hw⟩ : w'.cell? ⟨w.heap.size, 0, none⟩ = some (.int .i64 i) ∧ w'.cell? ⟨w.heap.size, 1, none⟩ = some (.string T) ∧ w'.cell? ⟨w.heap.size, 2, none⟩ = some (.slice ta nt tc) ∧ Below w0.heap.size w0 w'))
  go_region_held3 (fun w' => w'.cell? ⟨w.heap.size, 0, none⟩ = some (.int .i64 i) ∧ w'.cell? ⟨w.heap.size, 1, none⟩ = some (.string T) ∧ w'.cell? ⟨w.heap.size, 2, none⟩ = some (.slice ta nt tc) ∧ Below w0.heap.size w0 w')
   (first | assumption | (refine HMK.out _ ?_; repeat' (first | assumption | with_reducible exact Below.refl _ _ | with_reducible refine Below.drew ?_ | with_reducible refine Below.alloc ?_ (by first | simp | (simp; omega) | exact hbn.size) _ | with_reducible refine Below.setCell ?_ (by first | simp | (simp; omega)) _)))
   ((go_at_call 92; (first | (with_reducible refine (HCL.out _ (Below.refl _ _).drew).mono ?_) | (with_reducible refine (HCL.out _ ((Below.refl _ w0).alloc (Nat.le_refl _) _).drew).mono ?_)); rintro e wn ⟨ao, c', rfl, hts, hge, bn⟩; (first | (have hbn : Below w0.heap.size w0 wn := (Below.refl _ w0).drew.trans (bn.mono (Nat.le_refl _)); have hrn := trivial) | (have hbn : Below w0.heap.size w0 wn := ((Below.refl _ w0).alloc (Nat.le_refl _) (.cells #[.int .i64 0, .string ⟨#[]⟩, .slice none 0 0] 46)).drew.trans (bn.mono (by simp)); have hrn := (QB.new w0 0 ⟨#[]⟩ (.slice none 0 0)).drewQ.below bn (QB.new w0 0 ⟨#[]⟩ (.slice none 0 0)).lt; have x0 := hrn.c0; have x1 := hrn.c1; have x2 := hrn.c2; have x3 := hrn.f0; have x4 := hrn.f1; have x5 := hrn.f2))))
  ·
   have hS := HMK.out _ (hbn.alloc hbn.size (.cells #[.int .i64 (i + g), .string T, .slice ao nt c'] 46))
   have hq := QB.new wn (i + g) T (.slice ao nt c')
   have hts2 := hts.keep (cells_keepL ((Below.refl _ wn).alloc (Nat.le_refl _) (.cells #[.int .i64 (i + g), .string T, .slice ao nt c'] 46)) (Nat.le_refl _))
   go_wp2_with fail
   go_meet
   exact ⟨_, _, _, rfl, hq, hts2, fun b off he => by
    obtain ⟨g1, cur, g2⟩ := hge b off he
    have g3 := (Array.getElem?_eq_some_iff.1 g2).1
    exact ⟨by simpa using g1, by omega, cur, (Below.heap_alloc _ _ _ g3).trans g2⟩, hS.2.2.2⟩
  ·
   have hne : ∀ b off, ao = some ⟨b, off, none⟩ → b ≠ w0.heap.size := fun b off he => by have := (hge b off he).1; simp at this; omega
   have hS := ((hbn.setCell (p := ⟨w0.heap.size, 0, none⟩) (Nat.le_refl _) (.int .i64 (i + g))).setCell (p := ⟨w0.heap.size, 1, none⟩) (Nat.le_refl _) (.string T)).setCell (p := ⟨w0.heap.size, 2, none⟩) (Nat.le_refl _) (.slice ao nt c')
   have hq := hrn.putQ (j := i + g) (s' := T) (v' := .slice ao nt c')
   have hts2 := ((hts.setNe hne (j := 0) (v := .int .i64 (i + g))).setNe hne (j := 1) (v := .string T)).setNe hne (j := 2) (v := .slice ao nt c')
   go_wp2_with fail
   go_meet
   exact ⟨_, _, _, rfl, hq, hts2, fun b off he => by
    obtain ⟨g1, cur, g2⟩ := hge b off he
    have g3 := hne b off he
    simp at g1
    exact ⟨by omega, Ne.symm g3, cur, (Below.heap_setCell _ _ _ b g3).trans ((Below.heap_setCell _ _ _ b g3).trans ((Below.heap_setCell _ _ _ b g3).trans g2))⟩, hS⟩
 case rest =>
  obtain ⟨p, ao, c', rfl, hq, hts, hge, hBc⟩ := hcut
  rename World => wc
  have hR1 := hR.below hBc hR.lt
  have hbc := hb.trans (hBc.mono hb.size)
  have HTS := Lib.hid hts
  have q2 := hq.c2
  clear p0 p1 p2 HCL HT hts
  go_wp2_with fail
  go_loopw [23] (fun v23 wr => ∃ k : Nat, k ≤ nt ∧ v23 = .int .i64 (k : Int) ∧ TSl wr ao (clL J L k) ∧ (∀ b off, ao = some ⟨b, off, none⟩ → w0.heap.size ≤ b ∧ p ≠ b ∧ ∃ cur, wr.heap[b]? = some (.cells cur 43 (0, 0))) ∧ QB wr p (i + g) T (.slice ao nt c') ∧ Below w0.heap.size w0 wr) (fun v23 _ => nt - (intOf v23).toNat)
  case atStart => exact ⟨0, by omega, rfl, by rw [clL_zero]; exact HTS.out, hge, hq, hBc⟩
  case round =>
   obtain ⟨k, hk, rfl, hTs, hfz, hqk, hB⟩ := hrel
   have d2 := hqk.c2
   by_cases hlt : k < nt
   ·
    have hkL : k < L.length := by rw [HN.out]; exact hlt
    have hkC : k < (clL J L k).length := by rw [clL_len]; exact hkL
    have hts := hTs
    obtain ⟨b, off, rfl, e0, e1, e2, e3⟩ := hTs k hkC
    rw [clL_at J L hkL hkC] at e0 e1 e2 e3
    obtain ⟨h, hh1, hh2⟩ := HVV.out _ (List.getElem_mem hkL)
    have hjJ : h < J.length := by rw [HM.out]; exact hh2
    obtain ⟨vb, vo, rfl, j0⟩ := (HJ.out.keep (cells_keepL hB (Nat.le_refl _))) h hjJ
    obtain ⟨hge1, hpb, cur, hcur⟩ := hfz b off rfl
    have hst := clL_succ J L hkL
    have hMk := clL_at J L hkL hkC
    have hcl : clT J L[k] = (L[k].1, J[h], L[k].2.2) := by unfold clT; rw [hh1]; simp [List.getD_eq_getElem?_getD, hjJ]
    rw [hcl] at hst
    clear hcl
    generalize J[h] = x at j0 hst
    generalize L[k] = y at e0 e1 e2 e3 hh1 hst hMk
    obtain ⟨bs, vr, gg, E⟩ := y
    simp only at e0 e1 e2 e3 hh1 hst
    subst hh1
    have hbA := (Below.refl _ wr).alloc (Nat.le_refl _) (.cells #[.string bs, .int .i64 (h : Int), .bool gg, .string E] 43)
    have hN := heap_alloc_new wr (.cells #[.string bs, .int .i64 (h : Int), .bool gg, .string E] 43)
    have n1 : (wr.alloc (.cells #[.string bs, .int .i64 (h : Int), .bool gg, .string E] 43)).cell? ⟨wr.heap.size, 1, none⟩ = some (.int .i64 (h : Int)) := by rw [Lib.cell_of_heap hN]; rfl
    have j1 := cells_keepL hbA (Nat.le_refl _) _ _ j0
    have d3 := cells_keepL hbA (Nat.le_refl _) _ _ d2
    have e4 := cells_keepL hbA (Nat.le_refl _) _ _ e1
    have hbl := (Array.getElem?_eq_some_iff.1 hcur).1
    have hc2 := (hbA.block b hbl).trans hcur
    have hf := Lib.frozen_of_heap hc2 (off + k * 4 + 1)
    have HE : ∀ w, (binOp .neq 71 (.slice (some ⟨vb, vo, none⟩) m cc) (.slice none 0 0)).run Tryz.prog w = .ok (.bool true) w := fun w => run_neq_slice_nil_any w _ _ (some ⟨vb, vo, none⟩) m cc 0 0 Tryz.underlying71
    have hhm : (h : Int) < (m : Int) := by omega
    have hT9 := hts.keep (cells_keepL hbA (Nat.le_refl _))
    have hq9 := hqk.below hbA hqk.lt
    have hB9 := hB.trans (hbA.mono hB.size)
    clear hkL hjJ
    go_wp2_with fail
    generalize hw9 : World.alloc wr _ = w9 at hbA hN n1 j1 d3 e4 hc2 hf hT9 hq9 hB9 ⊢
    go_wp2_with fail
    go_region
    have hset := TSl.setVar (x := x) hT9 hkC
    rw [hMk] at hset
    have hset2 : TSl (w9.setCell ⟨b, off + k * 4 + 1, none⟩ (.int .i64 x)) (some ⟨b, off, none⟩) (clL J L (k + 1)) := by rw [← hst]; exact hset
    have hcz : ∃ cur', (w9.setCell ⟨b, off + k * 4 + 1, none⟩ (.int .i64 x)).heap[b]? = some (.cells cur' 43 (0, 0)) := by
     simp only [World.setCell, Array.getElem?_modify, if_true, hc2, Option.map_some]
     exact ⟨_, rfl⟩
    have hqs : QB (w9.setCell ⟨b, off + k * 4 + 1, none⟩ (.int .i64 x)) p (i + g) T (.slice (some ⟨b, off, none⟩) nt c') := (Below.heap_setCell w9 ⟨b, off + k * 4 + 1, none⟩ (.int .i64 x) p hpb).trans hq9
    have hBs := (hB9.setCell (p := ⟨b, off + k * 4 + 1, none⟩) hge1 (.int .i64 x)).drew
    go_wp2_with fail
    exact ⟨⟨k + 1, by omega, by go_num, hset2, fun b1 off1 he => by
     injection he with he
     injection he with he1 he2 _
     subst he1
     exact ⟨hge1, hpb, hcz⟩, hqs, hBs⟩, by simp [intOf]; omega⟩
   ·
    obtain rfl : nt = k := by omega
    have eL : clL J L nt = L.map (clT J) := by rw [← HN.out]; exact clL_all J L
    rw [eL] at hTs
    have r1 := hR.below hB hR.lt
    have f0 := r1.f0
    have f1 := r1.f1
    have f2 := r1.f2
    have g0 := r1.c0
    have g1 := r1.c1
    have g2 := r1.c2
    have k0 := hqk.c0
    have k1 := hqk.c1
    have k2 := hqk.c2
    have hbw := hb.trans (hB.mono hb.size)
    have hz := hR.lt
    have hne : ∀ b off, ao = some ⟨b, off, none⟩ → b ≠ w.heap.size + 1 := fun b off he => by have := (hfz b off he).1; omega
    have HTO : Hid (TmO wr ao) := fun b off he => (hfz b off he).2.2
    have HTO3 := Lib.hid (fun x y z => HTO.out.set3 (x := x) (y := y) (z := z) hne)
    have HT2 := Lib.hid (fun x => ((hTs.setNe hne (j := 0) (v := .int .i64 (i + g))).setNe hne (j := 1) (v := .string T)).setNe hne (j := 2) (v := x))
    clear hne hge hz eL HTO
    go_wp2_with fail
    refine bodyPost_eqn rfl rfl (put3 r1) rfl ⟨_, _, rfl, HT2.out _, HTO3.out _ _ _, ?_⟩
    exact ((hbw.setCell (p := ⟨w.heap.size + 1, 0, none⟩) (by simp) _).setCell (p := ⟨w.heap.size + 1, 1, none⟩) (by simp) _).setCell (p := ⟨w.heap.size + 1, 2, none⟩) (by simp) _
end Go.Proofs.YtdhhbjmkdmbffaaGreatDoor
