import Derived.Test.YtdlbnioidfhhcaaGreatExE
import Derived.Test.YtdlbnioidfhhcaaGreatFldG
/- dominolaw14.Few; dominotop: crossFew, crossInts, awake13d. -/
namespace Go.Proofs.YtdlbnioidfhhcaaGreat
open Go.RowKit Num
set_option maxRecDepth 20000
set_option linter.unusedVariables false
/-- what a test of sizes answers -/
def FWX (P : Prop) (w : World) : Ending → World → Prop := fun e w' => ∃ V, e = .returned (.bool V) ∧ (V = true → P) ∧ Below w.heap.size w w'
theorem FWX.no {P : Prop} {w w' : World} (h : Below w.heap.size w w') : FWX P w (.returned (.bool false)) w' := ⟨_, rfl, (fun e => by cases e), h⟩
theorem FWX.yes {P : Prop} {w w' : World} (hP : P) (h : Below w.heap.size w w') : FWX P w (.returned (.bool true)) w' := ⟨_, rfl, (fun _ => hP), h⟩
theorem FWX.dec {P : Prop} {w w' : World} (b : Bool) (hP : b = true → P) (h : Below w.heap.size w w') : FWX P w (.returned (.bool b)) w' := ⟨_, rfl, hP, h⟩
set_option maxHeartbeats 2000000 in
theorem few14_any (M O G H : ByteArray) (w : World) (z1 : M.size ≤ maxLen) (z2 : O.size ≤ maxLen) (z3 : G.size ≤ maxLen) (z4 : H.size ≤ maxLen) :
    Calls Tryz.prog 10 #[.agg #[.string M, .string O, .string G, .string H]] w (FWX (PK.sm ⟨M, O, G, H⟩) w) := by
  have hb := (Below.refl _ w).alloc (Nat.le_refl _) (.cells #[.string M, .string O, .string G, .string H] 28)
  have hY := KYB.new w M O G H
  have c0 := hY.c0
  have c1 := hY.c1
  have c2 := hY.c2
  have c3 := hY.c3
  unfold maxLen at z1 z2 z3 z4
  by_cases h1 : M.size ≤ 8
  rotate_left
  · go_enter Tryz.func10, Tryz.ntmps10
    go_wp2_with fail
    go_ret
    exact FWX.no hb
  by_cases h2 : O.size ≤ 8
  rotate_left
  · go_enter Tryz.func10, Tryz.ntmps10
    go_wp2_with fail
    go_ret
    exact FWX.no hb
  by_cases h3 : G.size ≤ 9
  rotate_left
  · go_enter Tryz.func10, Tryz.ntmps10
    go_wp2_with fail
    go_ret
    exact FWX.no hb
  have HP := Lib.hid (fun h4 => (show PK.sm ⟨M, O, G, H⟩ from ⟨h1, h2, h3, h4⟩))
  go_enter Tryz.func10, Tryz.ntmps10
  go_wp2_with fail
  go_ret
  exact FWX.dec (decide ((H.size : Int) ≤ 9)) (fun h => HP.out (by have := of_decide_eq_true h; omega)) hb
/-- a cross in a variable -/
structure CR where
  C : ByteArray
  L : ByteArray
  k : PK
  l : PK
  A : ByteArray
  B : ByteArray
  V : ByteArray
  R : ByteArray
def CR.cs (x : CR) : Array Value := #[.string x.C, .string x.L, .string x.k.M, .string x.k.O, .string x.k.G, .string x.k.H, .string x.l.M, .string x.l.O, .string x.l.G, .string x.l.H, .string x.A, .string x.B, .string x.V, .string x.R]
structure CR.z (x : CR) : Prop where
  C : x.C.size ≤ maxLen
  L : x.L.size ≤ maxLen
  kM : x.k.M.size ≤ maxLen
  kO : x.k.O.size ≤ maxLen
  kG : x.k.G.size ≤ maxLen
  kH : x.k.H.size ≤ maxLen
  lM : x.l.M.size ≤ maxLen
  lO : x.l.O.size ≤ maxLen
  lG : x.l.G.size ≤ maxLen
  lH : x.l.H.size ≤ maxLen
  A : x.A.size ≤ maxLen
  B : x.B.size ≤ maxLen
  V : x.V.size ≤ maxLen
  R : x.R.size ≤ maxLen
structure CR.sm (x : CR) : Prop where
  k : x.k.sm
  l : x.l.sm
  A : x.A.size ≤ 9
  B : x.B.size ≤ 9
  V : x.V.size ≤ 8
  R : x.R.size ≤ 8
  C : x.C.size ≤ 8
  L : x.L.size ≤ 8
/-- the cells of a cross -/
structure CRC (w : World) (p : Nat) (x : CR) : Prop where
  c0 : w.cell? ⟨p, 0, none⟩ = some (.string x.C)
  c1 : w.cell? ⟨p, 1, none⟩ = some (.string x.L)
  c2 : w.cell? ⟨p, 2, none⟩ = some (.string x.k.M)
  c3 : w.cell? ⟨p, 3, none⟩ = some (.string x.k.O)
  c4 : w.cell? ⟨p, 4, none⟩ = some (.string x.k.G)
  c5 : w.cell? ⟨p, 5, none⟩ = some (.string x.k.H)
  c6 : w.cell? ⟨p, 6, none⟩ = some (.string x.l.M)
  c7 : w.cell? ⟨p, 7, none⟩ = some (.string x.l.O)
  c8 : w.cell? ⟨p, 8, none⟩ = some (.string x.l.G)
  c9 : w.cell? ⟨p, 9, none⟩ = some (.string x.l.H)
  cA : w.cell? ⟨p, 10, none⟩ = some (.string x.A)
  cB : w.cell? ⟨p, 11, none⟩ = some (.string x.B)
  cC : w.cell? ⟨p, 12, none⟩ = some (.string x.V)
  cD : w.cell? ⟨p, 13, none⟩ = some (.string x.R)
theorem CRC.of {w : World} {p : Nat} {x : CR} (h : HPB w p x.cs 30) : CRC w p x := by
  constructor
  all_goals
    rw [Lib.cell_of_heap h]
    rfl
theorem CRC.keep {w w' : World} {p : Nat} {x : CR} (h : CRC w p x) (hb : Below w.heap.size w w') : CRC w' p x :=
  ⟨cells_keepL hb (Nat.le_refl _) _ _ h.c0, cells_keepL hb (Nat.le_refl _) _ _ h.c1, cells_keepL hb (Nat.le_refl _) _ _ h.c2, cells_keepL hb (Nat.le_refl _) _ _ h.c3, cells_keepL hb (Nat.le_refl _) _ _ h.c4, cells_keepL hb (Nat.le_refl _) _ _ h.c5, cells_keepL hb (Nat.le_refl _) _ _ h.c6,
   cells_keepL hb (Nat.le_refl _) _ _ h.c7, cells_keepL hb (Nat.le_refl _) _ _ h.c8, cells_keepL hb (Nat.le_refl _) _ _ h.c9, cells_keepL hb (Nat.le_refl _) _ _ h.cA, cells_keepL hb (Nat.le_refl _) _ _ h.cB, cells_keepL hb (Nat.le_refl _) _ _ h.cC, cells_keepL hb (Nat.le_refl _) _ _ h.cD⟩
set_option maxHeartbeats 8000000 in
theorem crossFew_any (x : CR) (w : World) (hz : x.z) :
    Calls Tryz.prog 4 #[.agg #[.string x.C, .string x.L, .string x.k.M, .string x.k.O, .string x.k.G, .string x.k.H, .string x.l.M, .string x.l.O, .string x.l.G, .string x.l.H, .string x.A, .string x.B, .string x.V, .string x.R]] w (FWX x.sm w) := by
  have hb := (Below.refl _ w).alloc (Nat.le_refl _) (.cells #[.string x.C, .string x.L, .string x.k.M, .string x.k.O, .string x.k.G, .string x.k.H, .string x.l.M, .string x.l.O, .string x.l.G, .string x.l.H, .string x.A, .string x.B, .string x.V, .string x.R] 30)
  have hC : CRC (w.alloc (.cells #[.string x.C, .string x.L, .string x.k.M, .string x.k.O, .string x.k.G, .string x.k.H, .string x.l.M, .string x.l.O, .string x.l.G, .string x.l.H, .string x.A, .string x.B, .string x.V, .string x.R] 30)) w.heap.size x := CRC.of (HPB.new w x.cs 30)
  have HF1 := Lib.hid (fun w' => few14_any x.k.M x.k.O x.k.G x.k.H w' hz.kM hz.kO hz.kG hz.kH)
  have HF2 := Lib.hid (fun w' => few14_any x.l.M x.l.O x.l.G x.l.H w' hz.lM hz.lO hz.lG hz.lH)
  have z1 := hz.A
  have z2 := hz.B
  have z3 := hz.V
  have z4 := hz.R
  have z5 := hz.C
  have z6 := hz.L
  unfold maxLen at z1 z2 z3 z4 z5 z6
  have HSM := Lib.hid (fun h1 h2 h3 h4 h5 h6 h7 h8 => (show x.sm from ⟨h1, h2, h3, h4, h5, h6, h7, h8⟩))
  have c2 := hC.c2
  have c3 := hC.c3
  have c4 := hC.c4
  have c5 := hC.c5
  clear hz
  go_enter Tryz.func4, Tryz.ntmps4
  go_wp2_with fail
  clear c2 c3 c4 c5
  generalize World.alloc w _ = w0 at hb hC ⊢
  refine (HF1.out _).mono ?_; rintro e w1 ⟨Z, rfl, hZ, b1⟩
  have hb1 := hb.trans (b1.mono hb.size)
  have hC1 := hC.keep b1
  clear hb hC b1 HF1
  cases Z
  · go_wp2_with fail
    go_ret
    exact FWX.no hb1
  have HK := Lib.hid (hZ rfl)
  clear hZ
  have c6 := hC1.c6
  have c7 := hC1.c7
  have c8 := hC1.c8
  have c9 := hC1.c9
  go_wp2_with fail
  clear c6 c7 c8 c9
  refine (HF2.out _).mono ?_; rintro e w2 ⟨Z, rfl, hZ, b2⟩
  have hb2 := hb1.trans (b2.mono hb1.size)
  have hC2 := hC1.keep b2
  clear hb1 hC1 b2 HF2
  cases Z
  · go_wp2_with fail
    go_ret
    exact FWX.no hb2
  have HL := Lib.hid (hZ rfl)
  clear hZ
  have c0 := hC2.c0
  have c1 := hC2.c1
  have cA := hC2.cA
  have cB := hC2.cB
  have cC := hC2.cC
  have cD := hC2.cD
  clear hC2
  by_cases h1 : x.A.size ≤ 9
  rotate_left
  · go_wp2_with fail
    go_ret
    exact FWX.no hb2
  by_cases h2 : x.B.size ≤ 9
  rotate_left
  · go_wp2_with fail
    go_ret
    exact FWX.no hb2
  by_cases h3 : x.V.size ≤ 8
  rotate_left
  · go_wp2_with fail
    go_ret
    exact FWX.no hb2
  by_cases h4 : x.R.size ≤ 8
  rotate_left
  · go_wp2_with fail
    go_ret
    exact FWX.no hb2
  by_cases h5 : x.C.size ≤ 8
  rotate_left
  · go_wp2_with fail
    go_ret
    exact FWX.no hb2
  have HP := Lib.hid (fun h6 => HSM.out HK.out HL.out h1 h2 h3 h4 h5 h6)
  go_wp2_with fail
  go_ret
  exact FWX.dec (decide ((x.L.size : Int) ≤ 8)) (fun h => HP.out (by have := of_decide_eq_true h; omega)) hb2
set_option maxHeartbeats 2000000 in
theorem crossInts_any (ao : Option Addr) (c : Nat) (l : List (Bool × ByteArray)) (w : World) (hl : IS w ao l) (h1 : l.length ≤ maxLen) (h2 : ∀ r ∈ l, r.2.size ≤ maxLen) :
    Calls Tryz.prog 5 #[.slice ao l.length c] w (FWX (l.length ≤ 6 ∧ ∀ r ∈ l, r.2.size ≤ 24) w) := by
  unfold maxLen at h1 h2
  have HL := Lib.hid hl
  have HZ := Lib.hid h2
  obtain ⟨P, hP⟩ : ∃ P, (l.length ≤ 6 ∧ ∀ r ∈ l, r.2.size ≤ 24) = P := ⟨_, rfl⟩
  rw [hP]
  have HP := Lib.hid (fun h => (show P from hP ▸ h))
  clear hl h2 hP
  go_enter Tryz.func5, Tryz.ntmps5
  go_wp2_with fail
  go_loopw [3] (fun v3 wr => ∃ k : Nat, k ≤ l.length ∧ k ≤ 6 ∧ v3 = .int .i64 (k : Int) ∧ Hid (∀ j (hj : j < l.length), j < k → l[j].2.size ≤ 24) ∧ Below w.heap.size w wr) (fun v3 _ => l.length - (intOf v3).toNat)
  case atStart => exact ⟨0, by omega, by omega, rfl, fun j _ h => by omega, Below.refl _ _⟩
  case round =>
    obtain ⟨k, hk, hk6, rfl, hv, hB⟩ := hrel
    by_cases hlt : k < l.length
    · by_cases h6 : k < 6
      · obtain ⟨b, off, rfl, d0, d1⟩ := (HL.out.keepL (cells_keepL hB (Nat.le_refl _))) k hlt
        have hzk := HZ.out _ (List.getElem_mem hlt)
        have i1 : (0 : Int) ≤ (k : Int) := by omega
        have i2 : (k : Int) < (l.length : Int) := by omega
        by_cases hs : l[k].2.size ≤ 24
        · have HV : Hid (∀ j (hj : j < l.length), j < k + 1 → l[j].2.size ≤ 24) := fun j hj hjk => by
            by_cases e : j = k
            · subst e; exact hs
            · exact hv.out j hj (by omega)
          clear hv
          generalize l[k] = X at d0 d1 hzk hs
          go_wp2_with fail
          exact ⟨⟨k + 1, by omega, by omega, by go_num, HV, hB⟩, by simp [intOf]; omega⟩
        · clear hv
          generalize l[k] = X at d0 d1 hzk hs
          go_wp2_with fail
          go_ret
          exact FWX.no hB
      · have h7 : ¬ l.length ≤ 6 := by omega
        clear hv
        go_wp2_with fail
        go_ret
        exact FWX.dec (decide ((l.length : Int) ≤ 6)) (fun h => by have := of_decide_eq_true h; omega) hB
    · obtain rfl : k = l.length := by omega
      have HV := Lib.hid (HP.out ⟨hk6, fun r hr => by
        obtain ⟨i, hi, rfl⟩ := List.mem_iff_getElem.1 hr
        exact hv.out i hi hi⟩)
      clear hv HP HZ
      go_wp2_with fail
      go_ret
      exact FWX.dec (decide ((l.length : Int) ≤ 6)) (fun h => HV.out) hB
theorem aw_fm : PK.fm ⟨⟨#[77]⟩, ⟨#[]⟩, ⟨#[4]⟩, ⟨#[16]⟩⟩ = true := by decide +kernel
theorem aw_e : PK.e ⟨⟨#[77]⟩, ⟨#[]⟩, ⟨#[4]⟩, ⟨#[16]⟩⟩ = 0 := by decide +kernel
theorem aw_S : gpS ⟨#[77]⟩ ⟨#[]⟩ [⟨#[4]⟩, ⟨#[16]⟩] [(false, ⟨#[2]⟩), (false, ⟨#[3]⟩)] = ⟨#[9]⟩ := by decide +kernel
theorem aw_E : gpE ⟨#[77]⟩ ⟨#[]⟩ [⟨#[4]⟩, ⟨#[16]⟩] [(false, ⟨#[2]⟩), (false, ⟨#[3]⟩)] = 0 := by decide +kernel
theorem awake13d_any (w : World) : Calls Tryz.prog 6 #[] w fun e w' => e = .returned (.bool true) ∧ Below w.heap.size w w' := by
  have HC := Lib.hid (fun w' => pcommit_ok ⟨#[77]⟩ ⟨#[]⟩ ⟨#[4]⟩ ⟨#[16]⟩ false ⟨#[2]⟩ false ⟨#[3]⟩ w' aw_fm aw_e (by decide +kernel) (by decide +kernel))
  rw [aw_S, aw_E] at HC
  go_enter Tryz.func6, Tryz.ntmps6
  go_wp2_with fail
  refine (HC.out _).mono ?_; rintro e w1 ⟨rfl, b1⟩
  go_wp2_with fail
  go_ret
  exact ⟨rfl, b1⟩
end Go.Proofs.YtdlbnioidfhhcaaGreat

/- The walk of TopCrossExtracts. -/
namespace Go.Proofs.YtdlbnioidfhhcaaGreat
open Go.RowKit Num
set_option maxRecDepth 20000
set_option linter.unusedVariables false
/-- the sizes of what a proof holds -/
structure PfZ (x : PfA) : Prop where
  F : ∀ s ∈ x.F, s.size ≤ maxLen
  c : x.c.size ≤ maxLen
  R : ∀ r ∈ x.R, r.2.size ≤ maxLen
/-- what Extract returns for the statement of Equal -/
def XR3 (k l : PK) (A B : ByteArray) (w : World) : Ending → World → Prop := fun e w' =>
  (∃ E : Int, E ≠ 0 ∧ e = .returned (.tuple #[.slice none 0 0, .int .i64 E]) ∧ Below w.heap.size w w') ∨
  (∃ (ao : Option Addr) (c : Nat) (g0 : Bool) (s0 : ByteArray) (g1 : Bool) (s1 : ByteArray) (g2 : Bool) (s2 : ByteArray), e = .returned (.tuple #[.slice ao 3 c, .int .i64 0]) ∧ IS w' ao [(g0, s0), (g1, s1), (g2, s2)] ∧ ivB (g0, s0) = true ∧ ivB (g1, s1) = true ∧ ivB (g2, s2) = true ∧
    gpS k.M k.O [k.G, k.H] [(g0, s0), (g1, s1)] = A ∧ gpE k.M k.O [k.G, k.H] [(g0, s0), (g1, s1)] = 0 ∧ gpS l.M l.O [l.G, l.H] [(g0, s0), (g2, s2)] = B ∧ gpE l.M l.O [l.G, l.H] [(g0, s0), (g2, s2)] = 0 ∧ Below w.heap.size w w')
theorem XR3.of {k l : PK} {A B V R : ByteArray} {ta : Option Addr} {ca : Nat} {tb : Option Addr} {cb : Nat} {w w' : World} {e : Ending} (h : XTQ (eqS k l A B V R ta ca tb cb) w e w') : XR3 k l A B w e w' := by
  rcases h with ⟨E, hE, he, hb⟩ | ⟨ao, c, L, he, hi, h0, hs, hm, hb⟩
  · exact .inl ⟨E, hE, he, hb⟩
  · obtain ⟨x0, x1, x2, rfl, i0, i1, i2, g0, g1, him⟩ := eqS_im h0 hs
    rw [him] at hm
    replace hm : [gpS k.M k.O [k.G, k.H] [x0, x1], gpS l.M l.O [l.G, l.H] [x0, x2]] = [A, B] := hm
    injection hm with e1 e2
    injection e2 with e2 _
    exact .inr ⟨ao, c, x0.1, x0.2, x1.1, x1.2, x2.1, x2.2, he, hi, i0, i1, i2, e1, g0, e2, g1, hb⟩
/-- the boxes of the law -/
structure CB (W : World) (P : Nat) (x : CR) (p q : PfA) : Prop where
  c : CRC W P x
  f : PFB W (P + 1) p
  g : PFB W (P + 1 + 1) q
  k : PfK W p
  l : PfK W q
theorem CB.keep {W w' : World} {P : Nat} {x : CR} {p q : PfA} (h : CB W P x p q) (hb : Below W.heap.size W w') : CB w' P x p q := ⟨h.c.keep hb, h.f.below hb h.f.lt, h.g.below hb h.g.lt, h.k.below hb, h.l.below hb⟩
theorem cbox (w : World) (x : CR) (p q : PfA) (hp : PfK w p) (hq : PfK w q) : ∃ W, ((w.alloc (.cells #[.string x.C, .string x.L, .string x.k.M, .string x.k.O, .string x.k.G, .string x.k.H, .string x.l.M, .string x.l.O, .string x.l.G, .string x.l.H, .string x.A, .string x.B, .string x.V, .string x.R] 30)).alloc (.cells #[.slice p.fa p.F.length p.fc, .string p.c, .slice p.ra p.R.length p.rc] 34)).alloc (.cells #[.slice q.fa q.F.length q.fc, .string q.c, .slice q.ra q.R.length q.rc] 34) = W ∧ CB W w.heap.size x p q ∧ Below w.heap.size w W := by
  have al := fun (W : World) (o : Obj) => (Below.refl W.heap.size W).alloc (Nat.le_refl _) o
  have h1 : CRC (w.alloc (.cells #[.string x.C, .string x.L, .string x.k.M, .string x.k.O, .string x.k.G, .string x.k.H, .string x.l.M, .string x.l.O, .string x.l.G, .string x.l.H, .string x.A, .string x.B, .string x.V, .string x.R] 30)) w.heap.size x := CRC.of (HPB.new w x.cs 30)
  have b1 := al w (.cells #[.string x.C, .string x.L, .string x.k.M, .string x.k.O, .string x.k.G, .string x.k.H, .string x.l.M, .string x.l.O, .string x.l.G, .string x.l.H, .string x.A, .string x.B, .string x.V, .string x.R] 30)
  have s1 : (w.alloc (.cells #[.string x.C, .string x.L, .string x.k.M, .string x.k.O, .string x.k.G, .string x.k.H, .string x.l.M, .string x.l.O, .string x.l.G, .string x.l.H, .string x.A, .string x.B, .string x.V, .string x.R] 30)).heap.size = w.heap.size + 1 := World.size_alloc _ _
  generalize w.alloc (.cells #[.string x.C, .string x.L, .string x.k.M, .string x.k.O, .string x.k.G, .string x.k.H, .string x.l.M, .string x.l.O, .string x.l.G, .string x.l.H, .string x.A, .string x.B, .string x.V, .string x.R] 30) = W1 at h1 b1 s1 ⊢
  have h2 := PFB.new W1 p
  have b2 := al W1 (.cells #[.slice p.fa p.F.length p.fc, .string p.c, .slice p.ra p.R.length p.rc] 34)
  have s2 : (W1.alloc (.cells #[.slice p.fa p.F.length p.fc, .string p.c, .slice p.ra p.R.length p.rc] 34)).heap.size = W1.heap.size + 1 := World.size_alloc _ _
  generalize W1.alloc (.cells #[.slice p.fa p.F.length p.fc, .string p.c, .slice p.ra p.R.length p.rc] 34) = W2 at h2 b2 s2 ⊢
  have h3 := PFB.new W2 q
  have b3 := al W2 (.cells #[.slice q.fa q.F.length q.fc, .string q.c, .slice q.ra q.R.length q.rc] 34)
  rw [s1] at h2
  rw [s2, s1] at h3
  have hb := (b1.trans (b2.mono b1.size)).trans (b3.mono (by omega))
  exact ⟨_, rfl, ⟨(h1.keep b2).keep b3, h2.below b3 h2.lt, h3, hp.below hb, hq.below hb⟩, hb⟩
set_option maxHeartbeats 16000000 in
theorem cross_walk (x : CR) (p q : PfA) (w : World) (hp : PfK w p) (hq : PfK w q) (hx : x.z) (zp : PfZ p) (zq : PfZ q) :
    Calls Tryz.prog 3 #[.agg #[.string x.C, .string x.L, .string x.k.M, .string x.k.O, .string x.k.G, .string x.k.H, .string x.l.M, .string x.l.O, .string x.l.G, .string x.l.H, .string x.A, .string x.B, .string x.V, .string x.R], .agg #[.slice p.fa p.F.length p.fc, .string p.c, .slice p.ra p.R.length p.rc], .agg #[.slice q.fa q.F.length q.fc, .string q.c, .slice q.ra q.R.length q.rc]] w fun e w' => e = .returned (.bool true) ∧ Below w.heap.size w w' := by
  obtain ⟨W, hW, hV, hb⟩ := cbox w x p q hp hq
  have HK := Lib.hid (fun w' (h : Below W.heap.size W w') => hV.keep h)
  have HAW := Lib.hid (fun w' => awake13d_any w')
  have HFW := Lib.hid (fun w' => crossFew_any x w' hx)
  have HIP := Lib.hid (fun w' (h : Below W.heap.size W w') => crossInts_any p.ra p.rc p.R w' (hV.keep h).k.r hp.lr zp.R)
  have HIQ := Lib.hid (fun w' (h : Below W.heap.size W w') => crossInts_any q.ra q.rc q.R w' (hV.keep h).l.r hq.lr zq.R)
  have HEQ := Lib.hid (fun w' => iequal_any x.k x.l x.A x.B x.V x.R w')
  have HEX : Hid (∀ (sm : x.sm) (z1 : ∀ r ∈ p.R, r.2.size ≤ 24) (z2 : ∀ r ∈ q.R, r.2.size ≤ 24) (a : StA) (ta : Option Addr) (ca : Nat) (tb : Option Addr) (cb : Nat) (w' : World), SS w' a (eqS x.k x.l x.A x.B x.V x.R ta ca tb cb) → Below W.heap.size W w' → Calls Tryz.prog 8 #[.agg #[.string x.C, .string x.L], .agg #[.slice a.ga 2 a.gc, .slice a.va 3 a.vc, .slice a.qa 2 a.qc], .agg #[.slice p.fa p.F.length p.fc, .string p.c, .slice p.ra p.R.length p.rc], .agg #[.slice q.fa q.F.length q.fc, .string q.c, .slice q.ra q.R.length q.rc]] w' (XR3 x.k x.l x.A x.B w')) :=
    fun sm z1 z2 a ta ca tb cb w' hS h => (xextract_weak x.C x.L a (eqS x.k x.l x.A x.B x.V x.R ta ca tb cb) p q w' hS (eqS_ok sm.k sm.l sm.A sm.B sm.V sm.R) (hV.keep h).k (hV.keep h).l sm.C sm.L (eqS_v sm.V sm.R) eqS_szq z1 z2 (eqS_ord sm.k sm.l) (show 3 ≤ 64 by omega)).mono fun e w'' h => XR3.of h
  have lF1 := hp.lf
  have lF2 := hq.lf
  have zc1 := zp.c
  have zc2 := zq.c
  have HZ1 := Lib.hid zp.F
  have HZ2 := Lib.hid zq.F
  unfold maxLen at lF1 lF2 zc1 zc2 HZ1 HZ2
  have c0 := hV.c.c0
  have c1 := hV.c.c1
  have c2 := hV.c.c2
  have c3 := hV.c.c3
  have c4 := hV.c.c4
  have c5 := hV.c.c5
  have c6 := hV.c.c6
  have c7 := hV.c.c7
  have c8 := hV.c.c8
  have c9 := hV.c.c9
  have cA := hV.c.cA
  have cB := hV.c.cB
  have cC := hV.c.cC
  have cD := hV.c.cD
  obtain ⟨fa, fc, F, pc, ra, rc, R1⟩ := p
  obtain ⟨fb, fd, F2, qc, rb, rd, R2⟩ := q
  simp only at hW HIP HIQ HEX lF1 lF2 zc1 zc2 HZ1 HZ2 ⊢
  clear hp hq hx zp zq hV
  go_enter Tryz.func3, Tryz.ntmps3
  go_wp2_with fail
  clear hW c0 c1 c2 c3 c4 c5 c6 c7 c8 c9 cA cB cC cD
  refine (HFW.out _).mono ?_; rintro e w1 ⟨Z, rfl, hZ, b1⟩
  clear HFW
  cases Z
  · go_wp2_with fail
    refine (HAW.out _).mono ?_; rintro e wz ⟨rfl, bz⟩
    go_wp2_with fail
    go_ret
    exact ⟨rfl, hb.trans ((b1.trans (bz.mono b1.size)).mono hb.size)⟩
  have HSM := Lib.hid (hZ rfl)
  clear hZ
  have f2 : w1.cell? ⟨w.heap.size + 1, 2, none⟩ = some (.slice ra R1.length rc) := (HK.out _ b1).f.c2
  go_wp2_with fail
  refine (HIP.out _ b1).mono ?_; rintro e w2 ⟨Z, rfl, hZ, kb⟩
  have b2 := b1.trans (kb.mono b1.size)
  clear f2 kb b1 HIP
  cases Z
  · go_wp2_with fail
    refine (HAW.out _).mono ?_; rintro e wz ⟨rfl, bz⟩
    go_wp2_with fail
    go_ret
    exact ⟨rfl, hb.trans ((b2.trans (bz.mono b2.size)).mono hb.size)⟩
  have HM1 := Lib.hid (hZ rfl).2
  clear hZ
  have g2 : w2.cell? ⟨w.heap.size + 1 + 1, 2, none⟩ = some (.slice rb R2.length rd) := (HK.out _ b2).g.c2
  go_wp2_with fail
  refine (HIQ.out _ b2).mono ?_; rintro e w3 ⟨Z, rfl, hZ, kb⟩
  have b3 := b2.trans (kb.mono b2.size)
  clear g2 kb b2 HIQ
  cases Z
  · go_wp2_with fail
    refine (HAW.out _).mono ?_; rintro e wz ⟨rfl, bz⟩
    go_wp2_with fail
    go_ret
    exact ⟨rfl, hb.trans ((b3.trans (bz.mono b3.size)).mono hb.size)⟩
  have HM2 := Lib.hid (hZ rfl).2
  clear hZ
  have f0 : w3.cell? ⟨w.heap.size + 1, 0, none⟩ = some (.slice fa F.length fc) := (HK.out _ b3).f.c0
  have g0 : w3.cell? ⟨w.heap.size + 1 + 1, 0, none⟩ = some (.slice fb F2.length fd) := (HK.out _ b3).g.c0
  have f1 : w3.cell? ⟨w.heap.size + 1, 1, none⟩ = some (.string pc) := (HK.out _ b3).f.c1
  have g1 : w3.cell? ⟨w.heap.size + 1 + 1, 1, none⟩ = some (.string qc) := (HK.out _ b3).g.c1
  by_cases t1 : F.length ≤ 4
  rotate_left
  · go_wp2_with fail
    refine (HAW.out _).mono ?_; rintro e wz ⟨rfl, bz⟩
    go_wp2_with fail
    go_ret
    exact ⟨rfl, hb.trans ((b3.trans (bz.mono b3.size)).mono hb.size)⟩
  by_cases t2 : F2.length ≤ 4
  rotate_left
  · go_wp2_with fail
    refine (HAW.out _).mono ?_; rintro e wz ⟨rfl, bz⟩
    go_wp2_with fail
    go_ret
    exact ⟨rfl, hb.trans ((b3.trans (bz.mono b3.size)).mono hb.size)⟩
  by_cases t3 : pc.size ≤ 8
  rotate_left
  · go_wp2_with fail
    refine (HAW.out _).mono ?_; rintro e wz ⟨rfl, bz⟩
    go_wp2_with fail
    go_ret
    exact ⟨rfl, hb.trans ((b3.trans (bz.mono b3.size)).mono hb.size)⟩
  by_cases t4 : qc.size ≤ 8
  rotate_left
  · go_wp2_with fail
    refine (HAW.out _).mono ?_; rintro e wz ⟨rfl, bz⟩
    go_wp2_with fail
    go_ret
    exact ⟨rfl, hb.trans ((b3.trans (bz.mono b3.size)).mono hb.size)⟩
  have HF3 : Hid (NS w3 fa F) := (HK.out _ b3).k.f
  have HG3 : Hid (NS w3 fb F2) := (HK.out _ b3).l.f
  go_wp2_with fail
  clear t3 t4 f1 g1 zc1 zc2
  go_loopw [7] (fun v7 wr => ∃ k : Nat, k ≤ F.length ∧ v7 = .int .i64 (k : Int) ∧ Below w3.heap.size w3 wr) (fun v7 _ => F.length - (intOf v7).toNat)
  case atStart => exact ⟨0, by omega, rfl, Below.refl _ _⟩
  case round =>
    obtain ⟨k, hk, rfl, hB⟩ := hrel
    have hbw := b3.trans (hB.mono b3.size)
    have h0 : wr.cell? ⟨w.heap.size + 1, 0, none⟩ = some (.slice fa F.length fc) := (HK.out _ hbw).f.c0
    by_cases hlt : k < F.length
    · obtain ⟨b, off, rfl, d0⟩ := (HF3.out.keepL (cells_keepL hB (Nat.le_refl _))) k hlt
      have hzk := HZ1.out _ (List.getElem_mem hlt)
      have i1 : (0 : Int) ≤ (k : Int) := by omega
      have i2 : (k : Int) < (F.length : Int) := by omega
      generalize F[k] = Y at d0 hzk
      by_cases hs : Y.size ≤ 9
      · go_wp2_with fail
        exact ⟨⟨k + 1, by omega, by go_num, hB⟩, by simp [intOf]; omega⟩
      · go_wp2_with fail
        refine (HAW.out _).mono ?_; rintro e wz ⟨rfl, bz⟩
        go_wp2_with fail
        go_ret
        exact ⟨rfl, hb.trans ((hbw.trans (bz.mono hbw.size)).mono hb.size)⟩
    obtain rfl : k = F.length := by omega
    obtain ⟨w4, rfl⟩ : ∃ w4 : World, w4 = wr := ⟨_, rfl⟩
    have HG4 := Lib.hid (HG3.out.keepL (cells_keepL hB (Nat.le_refl _)))
    clear f0 g0 HF3 HG3 hB b3 HZ1 hlt
    go_wp2_with fail
    go_loopw [8] (fun v8 wr => ∃ k : Nat, k ≤ F2.length ∧ v8 = .int .i64 (k : Int) ∧ Below w4.heap.size w4 wr) (fun v8 _ => F2.length - (intOf v8).toNat)
    case atStart => exact ⟨0, by omega, rfl, Below.refl _ _⟩
    case round =>
      obtain ⟨k, hk, rfl, hB⟩ := hrel
      have hb4 := hbw.trans (hB.mono hbw.size)
      have h0 : wr.cell? ⟨w.heap.size + 1 + 1, 0, none⟩ = some (.slice fb F2.length fd) := (HK.out _ hb4).g.c0
      by_cases hlt : k < F2.length
      · obtain ⟨b, off, rfl, d0⟩ := (HG4.out.keepL (cells_keepL hB (Nat.le_refl _))) k hlt
        have hzk := HZ2.out _ (List.getElem_mem hlt)
        have i1 : (0 : Int) ≤ (k : Int) := by omega
        have i2 : (k : Int) < (F2.length : Int) := by omega
        generalize F2[k] = Y at d0 hzk
        by_cases hs : Y.size ≤ 9
        · go_wp2_with fail
          exact ⟨⟨k + 1, by omega, by go_num, hB⟩, by simp [intOf]; omega⟩
        · go_wp2_with fail
          refine (HAW.out _).mono ?_; rintro e wz ⟨rfl, bz⟩
          go_wp2_with fail
          go_ret
          exact ⟨rfl, hb.trans ((hb4.trans (bz.mono hb4.size)).mono hb.size)⟩
      obtain rfl : k = F2.length := by omega
      obtain ⟨w5, rfl⟩ : ∃ w5 : World, w5 = wr := ⟨_, rfl⟩
      have c2 := (HK.out _ hb4).c.c2
      have c3 := (HK.out _ hb4).c.c3
      have c4 := (HK.out _ hb4).c.c4
      have c5 := (HK.out _ hb4).c.c5
      have c6 := (HK.out _ hb4).c.c6
      have c7 := (HK.out _ hb4).c.c7
      have c8 := (HK.out _ hb4).c.c8
      have c9 := (HK.out _ hb4).c.c9
      have cA := (HK.out _ hb4).c.cA
      have cB := (HK.out _ hb4).c.cB
      have cC := (HK.out _ hb4).c.cC
      have cD := (HK.out _ hb4).c.cD
      clear HG4 hB hbw HZ2 hlt
      go_wp2_with fail
      refine (HEQ.out _).mono ?_; rintro e w6 (⟨hE, rfl, kb⟩ | ⟨hE, a, ta, ca, tb, cb, rfl, hS, kb⟩)
      · have b6 := hb4.trans (kb.mono hb4.size)
        have bN := (Below.refl _ w6).alloc (Nat.le_refl _) (.cells #[.slice none 0 0, .slice none 0 0, .slice none 0 0] 42)
        have b7 := b6.trans (bN.mono b6.size)
        generalize eqlE x.k x.l x.A x.B x.V x.R = E at hE ⊢
        have ht : (E != 0) = true := by simpa using hE
        clear bN b6 kb c2 c3 c4 c5 c6 c7 c8 c9 cA cB cC cD HEX HEQ h0
        go_wp2_with fail
        refine (HAW.out _).mono ?_; rintro e wz ⟨rfl, bz⟩
        go_wp2_with fail
        go_ret
        exact ⟨rfl, hb.trans ((b7.trans (bz.mono b7.size)).mono hb.size)⟩
      have b6 := hb4.trans (kb.mono hb4.size)
      have bN := (Below.refl _ w6).alloc (Nat.le_refl _) (.cells #[.slice a.ga 2 a.gc, .slice a.va 3 a.vc, .slice a.qa 2 a.qc] 42)
      have b7 := b6.trans (bN.mono b6.size)
      have hN := HPB.new w6 #[.slice a.ga 2 a.gc, .slice a.va 3 a.vc, .slice a.qa 2 a.qc] 42
      have hS7 := hS.below bN (Nat.le_refl _)
      clear kb c2 c3 c4 c5 c6 c7 c8 c9 cA cB cC cD h0 hS HEQ
      have HE := Lib.hid hE
      clear hE
      have hw6 : w6.heap.size = w6.heap.size := rfl
      obtain ⟨w7, hw7⟩ : ∃ w7, w6.alloc (.cells #[.slice a.ga 2 a.gc, .slice a.va 3 a.vc, .slice a.qa 2 a.qc] 42) = w7 := ⟨_, rfl⟩
      rw [hw7] at b7 hN hS7
      have n0 : w7.cell? ⟨w6.heap.size, 0, none⟩ = some (.slice a.ga 2 a.gc) := by rw [Lib.cell_of_heap hN]; rfl
      have n1 : w7.cell? ⟨w6.heap.size, 1, none⟩ = some (.slice a.va 3 a.vc) := by rw [Lib.cell_of_heap hN]; rfl
      have n2 : w7.cell? ⟨w6.heap.size, 2, none⟩ = some (.slice a.qa 2 a.qc) := by rw [Lib.cell_of_heap hN]; rfl
      have c0 := (HK.out _ b7).c.c0
      have c1 := (HK.out _ b7).c.c1
      have f0 : w7.cell? ⟨w.heap.size + 1, 0, none⟩ = some (.slice fa F.length fc) := (HK.out _ b7).f.c0
      have f1 : w7.cell? ⟨w.heap.size + 1, 1, none⟩ = some (.string pc) := (HK.out _ b7).f.c1
      have f2 : w7.cell? ⟨w.heap.size + 1, 2, none⟩ = some (.slice ra R1.length rc) := (HK.out _ b7).f.c2
      have g0 : w7.cell? ⟨w.heap.size + 1 + 1, 0, none⟩ = some (.slice fb F2.length fd) := (HK.out _ b7).g.c0
      have g1 : w7.cell? ⟨w.heap.size + 1 + 1, 1, none⟩ = some (.string qc) := (HK.out _ b7).g.c1
      have g2 : w7.cell? ⟨w.heap.size + 1 + 1, 2, none⟩ = some (.slice rb R2.length rd) := (HK.out _ b7).g.c2
      have HX := Lib.hid (HEX.out HSM.out HM1.out HM2.out a ta ca tb cb w7 hS7 b7)
      have hE0 := HE.out
      have e0 : (eqlE x.k x.l x.A x.B x.V x.R != 0) = false := by rw [hE0]; rfl
      clear hE0 hN hS7 bN HEX
      go_wp2_with fail
      clear hw7 n0 n1 n2 c0 c1 f0 f1 f2 g0 g1 g2 e0
      refine HX.out.mono ?_; rintro e w8 (⟨E, hE, rfl, kb⟩ | ⟨ao, c, v0, s0, v1, s1, v2, s2, rfl, hI, j0, j1, j2, hs1, he1, hs2, he2, kb⟩)
      · have b8 := b7.trans (kb.mono b7.size)
        have ht : (E != 0) = true := by simpa using hE
        clear kb HX
        go_wp2_with fail
        refine (HAW.out _).mono ?_; rintro e wz ⟨rfl, bz⟩
        go_wp2_with fail
        go_ret
        exact ⟨rfl, hb.trans ((b8.trans (bz.mono b8.size)).mono hb.size)⟩
      have b8 := b7.trans (kb.mono b7.size)
      obtain ⟨m1, m2, m3, m4⟩ := eql_zero HE.out
      have HO1 := Lib.hid (fun w' => popens_ok x.k.M x.k.O x.k.G x.k.H x.A v0 s0 v1 s1 w' m1 m2 j0 j1 hs1 he1)
      have HO2 := Lib.hid (fun w' => popens_ok x.l.M x.l.O x.l.G x.l.H x.B v0 s0 v2 s2 w' m3 m4 j0 j2 hs2 he2)
      clear m1 m2 m3 m4 j0 j1 j2 hs1 he1 hs2 he2 HX kb
      obtain ⟨b, off, rfl, d0, d1⟩ := hI 0 (by simp)
      obtain ⟨b', off', h1, d2, d3⟩ := hI 1 (by simp)
      obtain ⟨b'', off'', h2, d4, d5⟩ := hI 2 (by simp)
      injection h1 with h1
      injection h1 with h1 h1'
      injection h2 with h2
      injection h2 with h2 h2'
      subst h1 h1' h2 h2'
      replace d0 : w8.cell? ⟨b, off, none⟩ = some (.bool v0) := d0
      replace d1 : w8.cell? ⟨b, off + 1, none⟩ = some (.string s0) := d1
      replace d2 : w8.cell? ⟨b, off + 2, none⟩ = some (.bool v1) := d2
      replace d3 : w8.cell? ⟨b, off + 2 + 1, none⟩ = some (.string s1) := d3
      replace d4 : w8.cell? ⟨b, off + 4, none⟩ = some (.bool v2) := d4
      replace d5 : w8.cell? ⟨b, off + 4 + 1, none⟩ = some (.string s2) := d5
      clear hI
      have c2 := (HK.out _ b8).c.c2
      have c3 := (HK.out _ b8).c.c3
      have c4 := (HK.out _ b8).c.c4
      have c5 := (HK.out _ b8).c.c5
      have c6 := (HK.out _ b8).c.c6
      have c7 := (HK.out _ b8).c.c7
      have c8 := (HK.out _ b8).c.c8
      have c9 := (HK.out _ b8).c.c9
      have cA := (HK.out _ b8).c.cA
      have cB := (HK.out _ b8).c.cB
      go_wp2_with fail
      have HMK := Lib.hid (fun w' (hw : Below w8.heap.size w8 w') => (⟨cells_keepL hw (Nat.le_refl _) _ _ c2, cells_keepL hw (Nat.le_refl _) _ _ c3, cells_keepL hw (Nat.le_refl _) _ _ c4, cells_keepL hw (Nat.le_refl _) _ _ c5, cells_keepL hw (Nat.le_refl _) _ _ c6, cells_keepL hw (Nat.le_refl _) _ _ c7, cells_keepL hw (Nat.le_refl _) _ _ c8, cells_keepL hw (Nat.le_refl _) _ _ c9, cells_keepL hw (Nat.le_refl _) _ _ cA, cells_keepL hw (Nat.le_refl _) _ _ cB, cells_keepL hw (Nat.le_refl _) _ _ d0, cells_keepL hw (Nat.le_refl _) _ _ d1, cells_keepL hw (Nat.le_refl _) _ _ d2, cells_keepL hw (Nat.le_refl _) _ _ d3, cells_keepL hw (Nat.le_refl _) _ _ d4, cells_keepL hw (Nat.le_refl _) _ _ d5, hw⟩ : w'.cell? ⟨w.heap.size, 2, none⟩ = some (.string x.k.M) ∧ w'.cell? ⟨w.heap.size, 3, none⟩ = some (.string x.k.O) ∧ w'.cell? ⟨w.heap.size, 4, none⟩ = some (.string x.k.G) ∧ w'.cell? ⟨w.heap.size, 5, none⟩ = some (.string x.k.H) ∧ w'.cell? ⟨w.heap.size, 6, none⟩ = some (.string x.l.M) ∧ w'.cell? ⟨w.heap.size, 7, none⟩ = some (.string x.l.O) ∧ w'.cell? ⟨w.heap.size, 8, none⟩ = some (.string x.l.G) ∧ w'.cell? ⟨w.heap.size, 9, none⟩ = some (.string x.l.H) ∧ w'.cell? ⟨w.heap.size, 10, none⟩ = some (.string x.A) ∧ w'.cell? ⟨w.heap.size, 11, none⟩ = some (.string x.B) ∧ w'.cell? ⟨b, off, none⟩ = some (.bool v0) ∧ w'.cell? ⟨b, off + 1, none⟩ = some (.string s0) ∧ w'.cell? ⟨b, off + 2, none⟩ = some (.bool v1) ∧ w'.cell? ⟨b, off + 2 + 1, none⟩ = some (.string s1) ∧ w'.cell? ⟨b, off + 4, none⟩ = some (.bool v2) ∧ w'.cell? ⟨b, off + 4 + 1, none⟩ = some (.string s2) ∧ Below w8.heap.size w8 w'))
      go_region_held3 (fun w' => w'.cell? ⟨w.heap.size, 2, none⟩ = some (.string x.k.M) ∧ w'.cell? ⟨w.heap.size, 3, none⟩ = some (.string x.k.O) ∧ w'.cell? ⟨w.heap.size, 4, none⟩ = some (.string x.k.G) ∧ w'.cell? ⟨w.heap.size, 5, none⟩ = some (.string x.k.H) ∧ w'.cell? ⟨w.heap.size, 6, none⟩ = some (.string x.l.M) ∧ w'.cell? ⟨w.heap.size, 7, none⟩ = some (.string x.l.O) ∧ w'.cell? ⟨w.heap.size, 8, none⟩ = some (.string x.l.G) ∧ w'.cell? ⟨w.heap.size, 9, none⟩ = some (.string x.l.H) ∧ w'.cell? ⟨w.heap.size, 10, none⟩ = some (.string x.A) ∧ w'.cell? ⟨w.heap.size, 11, none⟩ = some (.string x.B) ∧ w'.cell? ⟨b, off, none⟩ = some (.bool v0) ∧ w'.cell? ⟨b, off + 1, none⟩ = some (.string s0) ∧ w'.cell? ⟨b, off + 2, none⟩ = some (.bool v1) ∧ w'.cell? ⟨b, off + 2 + 1, none⟩ = some (.string s1) ∧ w'.cell? ⟨b, off + 4, none⟩ = some (.bool v2) ∧ w'.cell? ⟨b, off + 4 + 1, none⟩ = some (.string s2) ∧ Below w8.heap.size w8 w')
        (first | assumption | (refine HMK.out _ ?_; first | assumption | with_reducible exact (Below.refl _ _).drew | with_reducible exact hbm | with_reducible exact hbp))
        (first
          | (go_at_call 9; (with_reducible refine (HO1.out _).mono ?_); rintro e wn ⟨rfl, bn⟩; have hbm : Below w8.heap.size w8 wn := (Below.refl _ w8).drew.trans (bn.mono (Nat.le_refl _)))
          | (go_at_call 9; (with_reducible refine (HO2.out _).mono ?_); rintro e wp ⟨rfl, bp⟩; have hbp : Below w8.heap.size w8 wp := hbm.trans (bp.mono hbm.size)))
      go_wp2_with fail
      go_ret
      exact ⟨rfl, hb.trans ((b8.trans (hbp.mono b8.size)).mono hb.size)⟩
end Go.Proofs.YtdlbnioidfhhcaaGreat

/- Arguments of TopCrossExtracts: crosses and proofs, opened. -/
namespace Go.Proofs.YtdlbnioidfhhcaaGreat
open Go.RowKit Go.WideShapes Go.ChangeShapes Go.ChangeAt Num
set_option linter.unusedVariables false
set_option maxRecDepth 20000
section
variable {H : Type} {enc : TypeId × Value → H} {W : World} {base fuel : Nat} {v : Value} {d : DataW H} {p : List MemPlace} {c : Value} {y0 : DataW H × List MemPlace}
theorem rows_natsX (h : DataW.trod enc Tryz.prog W 0 (fun _ => true) true fuel 31 [c] = some y0) :
    ∃ (ao : Option Addr) (cm : Nat) (L : List ByteArray), c = .slice ao L.length cm ∧ L.length ≤ maxLen ∧ (∀ s ∈ L, s.size ≤ maxLen) ∧ NS W ao L := by
  obtain ⟨ao, cm, L, h1, h2, h3⟩ := open_rows (k := 1) (α := ByteArray) (fun q f => f 0 = some (.string q) ∧ q.size ≤ maxLen) Tryz.underlying31 (by kernel_rfl) (by omega) (fun n cs y hy hl => by
    obtain ⟨s, hs, _, hz⟩ := DataW.trod_string Tryz.underlying22 hy
    exact ⟨s, by rw [hs]; rfl, hz⟩) h
  refine ⟨ao, cm, L, h1, h2, fun x hx => ?_, fun k hk => ?_⟩
  · obtain ⟨i, hi, rfl⟩ := List.mem_iff_getElem.1 hx
    obtain ⟨_, _, _, _, z⟩ := h3 i hi
    exact z
  · obtain ⟨b, off, h4, h5, _⟩ := h3 k hk
    exact ⟨b, off, h4, by simpa using h5⟩
theorem rows_intsX (h : DataW.trod enc Tryz.prog W 0 (fun _ => true) true fuel 32 [c] = some y0) :
    ∃ (ao : Option Addr) (cm : Nat) (L : List (Bool × ByteArray)), c = .slice ao L.length cm ∧ L.length ≤ maxLen ∧ (∀ x ∈ L, x.2.size ≤ maxLen) ∧ IS W ao L := by
  obtain ⟨ao, cm, L, h1, h2, h3⟩ := open_rows (k := 2) (α := Bool × ByteArray) (fun q f => f 0 = some (.bool q.1) ∧ f 1 = some (.string q.2) ∧ q.2.size ≤ maxLen) Tryz.underlying32 (by kernel_rfl) (by omega) (fun n cs y hy hl => by
    obtain ⟨s0, e0⟩ := fld_bool (j := 0) Tryz.underlying50 rfl Tryz.underlying4 (by kernel_rfl) hy
    obtain ⟨s1, e1, z1⟩ := fld_string (j := 1) Tryz.underlying50 rfl Tryz.underlying22 (by kernel_rfl) hy
    exact ⟨(s0, s1), e0, e1, z1⟩) h
  refine ⟨ao, cm, L, h1, h2, fun x hx => ?_, fun k hk => ?_⟩
  · obtain ⟨i, hi, rfl⟩ := List.mem_iff_getElem.1 hx
    obtain ⟨_, _, _, _, _, z1⟩ := h3 i hi
    exact z1
  · obtain ⟨b, off, h4, h5, h6, _⟩ := h3 k hk
    exact ⟨b, off, h4, by simpa using h5, by simpa using h6⟩
/-- an argument of the type Proof -/
theorem open_Pf (hv : Value.okWide Tryz.prog W .any base 34 v) (h : DataW.Trod enc Tryz.prog W 0 (fun _ => true) true 34 v d p) :
    ∃ x : PfA, v = .agg #[.slice x.fa x.F.length x.fc, .string x.c, .slice x.ra x.R.length x.rc] ∧ PfK W x ∧ PfZ x := by
  obtain ⟨cs, rfl, hsz⟩ := okWide_struct Tryz.underlying34 hv
  obtain ⟨l⟩ := cs
  obtain ⟨fuel, hf⟩ := h
  have hf' : DataW.trod enc Tryz.prog W 0 (fun _ => true) true fuel 34 l = some (d, p) := hf
  obtain ⟨n0, y0, hy0⟩ := fld (j := 0) Tryz.underlying34 rfl hf'
  obtain ⟨s1, e1, z1⟩ := fld_string (j := 1) Tryz.underlying34 rfl Tryz.underlying22 (by kernel_rfl) hf'
  obtain ⟨n2, y2, hy2⟩ := fld (j := 2) Tryz.underlying34 rfl hf'
  have hl : l.length = 3 := hsz.trans (by kernel_rfl)
  match l, hl with
  | [c0, c1, c2], _ =>
  simp at e1
  subst e1
  replace hy0 : DataW.trod enc Tryz.prog W 0 (fun _ => true) true n0 31 [c0] = some y0 := hy0
  replace hy2 : DataW.trod enc Tryz.prog W 0 (fun _ => true) true n2 32 [c2] = some y2 := hy2
  obtain ⟨fa, fc, F, rfl, f1, f2, f3⟩ := rows_natsX hy0
  obtain ⟨ra, rc, R, rfl, r1, r2, r3⟩ := rows_intsX hy2
  exact ⟨⟨fa, fc, F, s1, ra, rc, R⟩, rfl, ⟨f3, r3, f1, r1⟩, ⟨f2, z1, r2⟩⟩
/-- an argument of the type Cross -/
theorem open_Cr (hv : Value.okWide Tryz.prog W .any base 30 v) (h : DataW.Trod enc Tryz.prog W 0 (fun _ => true) true 30 v d p) :
    ∃ x : CR, v = .agg #[.string x.C, .string x.L, .string x.k.M, .string x.k.O, .string x.k.G, .string x.k.H, .string x.l.M, .string x.l.O, .string x.l.G, .string x.l.H, .string x.A, .string x.B, .string x.V, .string x.R] ∧ x.z := by
  obtain ⟨cs, rfl, hsz⟩ := okWide_struct Tryz.underlying30 hv
  obtain ⟨l⟩ := cs
  obtain ⟨fuel, hf⟩ := h
  have hf' : DataW.trod enc Tryz.prog W 0 (fun _ => true) true fuel 30 l = some (d, p) := hf
  obtain ⟨n0, y0, hy0⟩ := fld (j := 0) Tryz.underlying30 rfl hf'
  obtain ⟨C, e0, z0⟩ := fld_string (j := 0) Tryz.underlying24 rfl Tryz.underlying22 (by kernel_rfl) hy0
  obtain ⟨L, e1, z1⟩ := fld_string (j := 1) Tryz.underlying24 rfl Tryz.underlying22 (by kernel_rfl) hy0
  obtain ⟨n1, y1, hy1⟩ := fld (j := 1) Tryz.underlying30 rfl hf'
  obtain ⟨n2, y2, hy2⟩ := fld (j := 0) Tryz.underlying28 rfl hy1
  obtain ⟨M, e2, z2⟩ := fld_string (j := 0) Tryz.underlying26 rfl Tryz.underlying22 (by kernel_rfl) hy2
  obtain ⟨O, e3, z3⟩ := fld_string (j := 1) Tryz.underlying26 rfl Tryz.underlying22 (by kernel_rfl) hy2
  obtain ⟨G, e4, z4⟩ := fld_string (j := 1) Tryz.underlying28 rfl Tryz.underlying22 (by kernel_rfl) hy1
  obtain ⟨K, e5, z5⟩ := fld_string (j := 2) Tryz.underlying28 rfl Tryz.underlying22 (by kernel_rfl) hy1
  obtain ⟨n3, y3, hy3⟩ := fld (j := 2) Tryz.underlying30 rfl hf'
  obtain ⟨n4, y4, hy4⟩ := fld (j := 0) Tryz.underlying28 rfl hy3
  obtain ⟨M', e6, z6⟩ := fld_string (j := 0) Tryz.underlying26 rfl Tryz.underlying22 (by kernel_rfl) hy4
  obtain ⟨O', e7, z7⟩ := fld_string (j := 1) Tryz.underlying26 rfl Tryz.underlying22 (by kernel_rfl) hy4
  obtain ⟨G', e8, z8⟩ := fld_string (j := 1) Tryz.underlying28 rfl Tryz.underlying22 (by kernel_rfl) hy3
  obtain ⟨K', e9, z9⟩ := fld_string (j := 2) Tryz.underlying28 rfl Tryz.underlying22 (by kernel_rfl) hy3
  obtain ⟨A, e10, z10⟩ := fld_string (j := 3) Tryz.underlying30 rfl Tryz.underlying22 (by kernel_rfl) hf'
  obtain ⟨B, e11, z11⟩ := fld_string (j := 4) Tryz.underlying30 rfl Tryz.underlying22 (by kernel_rfl) hf'
  obtain ⟨V, e12, z12⟩ := fld_string (j := 5) Tryz.underlying30 rfl Tryz.underlying22 (by kernel_rfl) hf'
  obtain ⟨R, e13, z13⟩ := fld_string (j := 6) Tryz.underlying30 rfl Tryz.underlying22 (by kernel_rfl) hf'
  have e0 := sub_at e0
  have e1 := sub_at e1
  have e2 := sub_at (sub_at e2)
  have e3 := sub_at (sub_at e3)
  have e4 := sub_at e4
  have e5 := sub_at e5
  have e6 := sub_at (sub_at e6)
  have e7 := sub_at (sub_at e7)
  have e8 := sub_at e8
  have e9 := sub_at e9
  have hl : l.length = 14 := hsz.trans (by kernel_rfl)
  match l, hl with
  | [x0, x1, x2, x3, x4, x5, x6, x7, x8, x9, x10, x11, x12, x13], _ =>
    simp at e0 e1 e2 e3 e4 e5 e6 e7 e8 e9 e10 e11 e12 e13
    subst e0 e1 e2 e3 e4 e5 e6 e7 e8 e9 e10 e11 e12 e13
    exact ⟨⟨C, L, ⟨M, O, G, K⟩, ⟨M', O', G', K'⟩, A, B, V, R⟩, rfl, ⟨z0, z1, z2, z3, z4, z5, z6, z7, z8, z9, z10, z11, z12, z13⟩⟩
end
end Go.Proofs.YtdlbnioidfhhcaaGreat
