import Derived.Test.YtdlbnioidfhhcaaGreatExA
/- sigma.Verify: some error, or the proof has the form of the statement. -/
namespace Go.Proofs.YtdlbnioidfhhcaaGreat
open Go.RowKit Num
set_option maxRecDepth 20000
set_option linter.unusedVariables false
/-- a proof, as it lies in memory -/
structure PfA where
  fa : Option Addr
  fc : Nat
  F : List ByteArray
  c : ByteArray
  ra : Option Addr
  rc : Nat
  R : List (Bool × ByteArray)
structure PfK (W : World) (x : PfA) : Prop where
  f : NS W x.fa x.F
  r : IS W x.ra x.R
  lf : x.F.length ≤ maxLen
  lr : x.R.length ≤ maxLen
theorem PfK.below {w w' : World} {x : PfA} (h : PfK w x) (hb : Below w.heap.size w w') : PfK w' x := ⟨h.f.keepL (cells_keepL hb (Nat.le_refl _)), h.r.keepL (cells_keepL hb (Nat.le_refl _)), h.lf, h.lr⟩
def PFB (w : World) (b : Nat) (x : PfA) : Prop := w.heap[b]? = some (.cells #[.slice x.fa x.F.length x.fc, .string x.c, .slice x.ra x.R.length x.rc] 34 (0, 0))
section
variable {w w' : World} {b K : Nat} {x : PfA}
theorem PFB.lt (h : PFB w b x) : b < w.heap.size := (Array.getElem?_eq_some_iff.1 h).1
theorem PFB.c0 (h : PFB w b x) : w.cell? ⟨b, 0, none⟩ = some (.slice x.fa x.F.length x.fc) := by rw [Lib.cell_of_heap h]; rfl
theorem PFB.c1 (h : PFB w b x) : w.cell? ⟨b, 1, none⟩ = some (.string x.c) := by rw [Lib.cell_of_heap h]; rfl
theorem PFB.c2 (h : PFB w b x) : w.cell? ⟨b, 2, none⟩ = some (.slice x.ra x.R.length x.rc) := by rw [Lib.cell_of_heap h]; rfl
theorem PFB.f (h : PFB w b x) (i : Nat) : w.frozen? ⟨b, i, none⟩ = false := Lib.frozen_of_heap h i
theorem PFB.new (w : World) (x : PfA) : PFB (w.alloc (.cells #[.slice x.fa x.F.length x.fc, .string x.c, .slice x.ra x.R.length x.rc] 34)) w.heap.size x := heap_alloc_new w _
theorem PFB.below (h : PFB w b x) (hb : Below K w w') (hK : b < K) : PFB w' b x := (hb.block b hK).trans h
theorem PFB.put {x' : PfA} (h : PFB w b x) : PFB (((w.setCell ⟨b, 0, none⟩ (.slice x'.fa x'.F.length x'.fc)).setCell ⟨b, 1, none⟩ (.string x'.c)).setCell ⟨b, 2, none⟩ (.slice x'.ra x'.R.length x'.rc)) b x' := put1 (put1 (put1 h))
end
/-- what a proof that is let through has -/
structure VRK (S : StM) (x : PfA) : Prop where
  c : validB x.c = true
  i : x.R.all ivB = true
  r : x.R.length = S.V.length
  k : lckE S.pl = 0
def VRQ (S : StM) (x : PfA) (w : World) : Ending → World → Prop := fun e w' => ∃ E : Int, e = .returned (.int .i64 E) ∧ (E = 0 → VRK S x) ∧ Below w.heap.size w w'
theorem VRQ.bad {S : StM} {x : PfA} {w w' : World} {e : Ending} {E : Int} (h : E ≠ 0) (he : e = .returned (.int .i64 E)) (hb : Below w.heap.size w w') : VRQ S x w e w' := ⟨E, he, fun h0 => absurd h0 h, hb⟩
theorem VRQ.ok {S : StM} {x : PfA} {w w' : World} {e : Ending} (h : VRK S x) (he : e = .returned (.int .i64 0)) (hb : Below w.heap.size w w') : VRQ S x w e w' := ⟨0, he, fun _ => h, hb⟩
/-- the arguments in memory -/
structure VB (W : World) (p : Nat) (C L : ByteArray) (a : StA) (S : StM) (x : PfA) : Prop where
  u : RUB W p C L
  s : SXB W (p + 1) a S
  f : PFB W (p + 1 + 1) x
  S : SS W a S
  k : PfK W x
theorem VB.keep {W w' : World} {p : Nat} {C L : ByteArray} {a : StA} {S : StM} {x : PfA} (h : VB W p C L a S x) (hb : Below W.heap.size W w') : VB w' p C L a S x :=
  ⟨h.u.below hb h.u.lt, h.s.below hb h.s.lt, h.f.below hb h.f.lt, h.S.below hb (Nat.le_refl _), h.k.below hb⟩
theorem vbox (w : World) (C L : ByteArray) (a : StA) (S : StM) (x : PfA) (hS : SS w a S) (hx : PfK w x) : ∃ W, ((w.alloc (.cells #[.string C, .string L] 24)).alloc (.cells #[.slice a.ga S.G.length a.gc, .slice a.va S.V.length a.vc, .slice a.qa S.Q.length a.qc] 42)).alloc (.cells #[.slice x.fa x.F.length x.fc, .string x.c, .slice x.ra x.R.length x.rc] 34) = W ∧
    VB W w.heap.size C L a S x ∧ Below w.heap.size w W := by
  have al := fun (W : World) (o : Obj) => (Below.refl W.heap.size W).alloc (Nat.le_refl _) o
  have h1 := RUB.new w C L
  have b1 := al w (.cells #[.string C, .string L] 24)
  have s1 : (w.alloc (.cells #[.string C, .string L] 24)).heap.size = w.heap.size + 1 := World.size_alloc _ _
  generalize w.alloc (.cells #[.string C, .string L] 24) = W1 at h1 b1 s1 ⊢
  have h2 := SXB.new W1 a S
  have b2 := al W1 (.cells #[.slice a.ga S.G.length a.gc, .slice a.va S.V.length a.vc, .slice a.qa S.Q.length a.qc] 42)
  have s2 : (W1.alloc (.cells #[.slice a.ga S.G.length a.gc, .slice a.va S.V.length a.vc, .slice a.qa S.Q.length a.qc] 42)).heap.size = W1.heap.size + 1 := World.size_alloc _ _
  generalize W1.alloc (.cells #[.slice a.ga S.G.length a.gc, .slice a.va S.V.length a.vc, .slice a.qa S.Q.length a.qc] 42) = W2 at h2 b2 s2 ⊢
  have h3 := PFB.new W2 x
  have b3 := al W2 (.cells #[.slice x.fa x.F.length x.fc, .string x.c, .slice x.ra x.R.length x.rc] 34)
  rw [s1] at h2
  rw [s2, s1] at h3
  have hb := (b1.trans (b2.mono b1.size)).trans (b3.mono (by omega))
  exact ⟨_, rfl, ⟨(h1.below b2 h1.lt).below b3 (by omega), h2.below b3 h2.lt, h3, hS.below hb (Nat.le_refl _), hx.below hb⟩, hb⟩
theorem bd_zero {C L : ByteArray} {S : StP} (h : bdE C L S = 0) : validB C = true ∧ validB L = true ∧ lckE S = 0 := by
  by_cases h1 : validB C = true ∧ validB L = true
  · by_cases h2 : lckE S = 0
    · exact ⟨h1.1, h1.2, h2⟩
    · rw [bd_lck h1 h2] at h; exact absurd h h2
  · rw [bd_bad h1] at h; exact absurd h (by decide)
theorem limP_ok {C L q b : ByteArray} (hC : validB C = true) (hL : validB L = true) (hq : validB q = true) (hb : validB b = true) (s1 : C.size ≤ 8) (s2 : L.size ≤ 8) (s3 : b.size ≤ 8) : validB (limP C L q b).2 = true := by
  unfold limP
  split
  · exact hq
  · have h1 : blen (nv C) ≤ 8 := by rw [← (isN_of_valid hC).size]; exact s1
    have h2 : blen (nv L) ≤ 8 := by rw [← (isN_of_valid hL).size]; exact s2
    have h3 : blen (nv b) ≤ 8 := by rw [← (isN_of_valid hb).size]; exact s3
    have h4 := mul_fit (mul_fit h2 h1) h3
    exact (IsN.mk' (Nat.le_trans (blen_mono (Nat.sub_le _ _)) (by omega))).valid
theorem q_grp {S : StM} (h : lckE S.pl = 0) : ∀ q ∈ S.Q, ∃ j : Nat, q.1 = (j : Int) ∧ j < S.G.length := fun q hq => by
  have hf := (ck_parts h).1
  obtain ⟨h1, h2, _⟩ := form_q hf (q := eqp q) (by rw [StM.pl_Q]; exact List.mem_map_of_mem hq)
  exact ⟨q.1.toNat, by have h1' : 0 ≤ q.1 := h1; omega, h2⟩
theorem vfrom_any (s : ByteArray) (w : World) (h : validB s = true) :
    Calls Tryz.prog 65 #[.string s] w fun e w' => e = .returned (.agg #[.bool false, .string s]) ∧ Below w.heap.size w w' := by
  have hs := isN_of_valid h
  have h1 := from_z (nv s) w hs.le
  rw [← hs.eq] at h1
  have hz : zb ((nv s : Nat) : Int) = false := decide_eq_false (by omega)
  have hy : zs ((nv s : Nat) : Int) = s := hs.eq.symm
  rw [hz, hy] at h1
  exact h1
set_option maxHeartbeats 16000000 in
theorem sverify_weak (C L : ByteArray) (a : StA) (S : StM) (x : PfA) (w : World) (hS : SS w a S) (hok : S.ok) (hx : PfK w x) (s1 : C.size ≤ 8) (s2 : L.size ≤ 8) (s3 : ∀ v ∈ S.V, v.size ≤ 8) (hz : SmS S x.R) :
    Calls Tryz.prog 41 #[.agg #[.string C, .string L], .agg #[.slice a.ga S.G.length a.gc, .slice a.va S.V.length a.vc, .slice a.qa S.Q.length a.qc], .agg #[.slice x.fa x.F.length x.fc, .string x.c, .slice x.ra x.R.length x.rc]] w (VRQ S x w) := by
  obtain ⟨W, hW, hV, hb⟩ := vbox w C L a S x hS hx
  have HK := Lib.hid (fun w' (h : Below W.heap.size W w') => hV.keep h)
  have HBD := Lib.hid (fun w' (h : Below W.heap.size W w') => sbounds_any C L a S w' (hV.keep h).S hok s1 s2 s3)
  have HVA := Lib.hid (fun w' (h : Below W.heap.size W w') => svalid_any x.ra x.rc x.R.length x.R w' (hV.keep h).k.r rfl hx.lr)
  have HIM := Lib.hid (fun w' (h : Below W.heap.size W w') => limages_any a S x.ra x.R.length x.rc x.R w' (hV.keep h).S hok (hV.keep h).k.r rfl hx.lr hz)
  have HBZ := Lib.hid (fun h => bd_zero (C := C) (L := L) (S := S.pl) h)
  have HVS := Lib.hid (fun (h : lckE S.pl = 0) => (show validB (ordL S.G) = true ∧ ∀ v ∈ S.V, validB v = true from by
    have hf := (ck_parts h).1
    unfold formB at hf
    rw [Bool.and_eq_true, Bool.and_eq_true] at hf
    exact ⟨(ord_valid hf.1).valid, fun v hv => List.all_eq_true.1 hf.2.1 v hv⟩))
  have HS3 := Lib.hid (And.intro s1 (And.intro s2 s3))
  have HOK := Lib.hid (fun h1 h2 h3 h4 => (show VRK S x from ⟨h1, h2, h3, h4⟩))
  have lF := hx.lf
  have lR := hx.lr
  have lV := hok.vl
  have lQ := hok.ql
  unfold maxLen at lF lR lV lQ
  obtain ⟨E, hE⟩ : ∃ E, bdE C L S.pl = E := ⟨_, rfl⟩
  rw [hE] at HBD HBZ
  obtain ⟨rb, hrb⟩ : ∃ b, x.R.all ivB = b := ⟨_, rfl⟩
  rw [hrb] at HVA HOK
  have HRI := Lib.hid hrb
  obtain ⟨Z, hZ⟩ : ∃ Z, rdE S.pl x.R = Z := ⟨_, rfl⟩
  obtain ⟨I, hI⟩ : ∃ I, imgS S.pl x.R = I := ⟨_, rfl⟩
  have hlen : Z = 0 → I.length = S.Q.length := fun h => by
    rw [← hI, imgS, if_pos (hZ.trans h), imS, List.length_map, StM.pl_Q, List.length_map]
  rw [hZ, hI] at HIM
  have HLEN := Lib.hid hlen
  have u0 := hV.u.c0
  have u1 := hV.u.c1
  have x0 := hV.s.c0
  have x1 := hV.s.c1
  have x2 := hV.s.c2
  obtain ⟨fa, fc, F, ch, ra, rc, R⟩ := x
  obtain ⟨ga, gc, va, vc, qa, qc⟩ := a
  simp only at hW HVA HIM HOK HRI lF lR x0 x1 x2 ⊢
  clear hS hok hx s1 s2 s3 hz hE hrb hV hZ hI hlen
  go_enter Tryz.func41, Tryz.ntmps41
  go_wp2_with fail
  clear hW u0 u1 x0 x1 x2
  refine (HBD.out _ (Below.refl _ _)).mono ?_; rintro e w1 (⟨h, rfl, b1⟩ | ⟨h, lo, lc, rfl, hG, b1⟩)
  · have ht : (E != 0) = true := by simpa using h
    go_wp2_with fail
    go_ret
    exact VRQ.bad h rfl (hb.trans (b1.mono hb.size))
  subst h
  obtain ⟨hvC, hvL, hck⟩ := HBZ.out rfl
  have HG1 := Lib.hid hG
  have f0 : w1.cell? ⟨w.heap.size + 1 + 1, 0, none⟩ = some (.slice fa F.length fc) := (HK.out _ b1).f.c0
  have HF1 : Hid (NS w1 fa F) := (HK.out _ b1).k.f
  have HCK := Lib.hid (And.intro hvC (And.intro hvL hck))
  clear hG HBD HBZ hvC hvL hck
  go_wp2_with fail
  go_loopw [33] (fun v33 wr => ∃ k : Nat, k ≤ F.length ∧ v33 = .int .i64 (k : Int) ∧ Below w1.heap.size w1 wr) (fun v33 _ => F.length - (intOf v33).toNat)
  case atStart => exact ⟨0, by omega, rfl, Below.refl _ _⟩
  case round =>
    obtain ⟨k, hk, rfl, hB⟩ := hrel
    have hbw := b1.trans (hB.mono b1.size)
    by_cases hlt : k < F.length
    · obtain ⟨b, off, rfl, d0⟩ := (HF1.out.keepL (cells_keepL hB (Nat.le_refl _))) k hlt
      generalize F[k] = X at d0
      cases he : validB X
      · have HV := Lib.hid (nvalidQ he)
        clear he
        go_wp2_with fail
        refine (HV.out _).mono ?_; rintro e w2 ⟨rfl, rfl⟩
        go_wp2_with fail
        go_ret
        exact VRQ.bad (E := 3) (by decide) rfl (hb.trans (hbw.mono hb.size))
      · have HV := Lib.hid (nvalidQ he)
        clear he
        go_wp2_with fail
        refine (HV.out _).mono ?_; rintro e w2 ⟨rfl, rfl⟩
        go_wp2_with fail
        exact ⟨⟨k + 1, by omega, by go_num, hB⟩, by simp [intOf]; omega⟩
    obtain rfl : k = F.length := by omega
    obtain ⟨w2, rfl⟩ : ∃ w2 : World, w2 = wr := ⟨_, rfl⟩
    have g1 : w2.cell? ⟨w.heap.size + 1 + 1, 1, none⟩ = some (.string ch) := (HK.out _ hbw).f.c1
    have g2 : w2.cell? ⟨w.heap.size + 1 + 1, 2, none⟩ = some (.slice ra R.length rc) := (HK.out _ hbw).f.c2
    clear f0 HF1 hlt hk
    cases hc : validB ch
    · have HV := Lib.hid (nvalidQ hc)
      clear hc
      go_wp2_with fail
      refine (HV.out _).mono ?_; rintro e w3 ⟨rfl, rfl⟩
      go_wp2_with fail
      go_ret
      exact VRQ.bad (E := 3) (by decide) rfl (hb.trans (hbw.mono hb.size))
    have HV := Lib.hid (nvalidQ hc)
    have HCH := Lib.hid hc
    clear hc
    go_wp2_with fail
    refine (HV.out _).mono ?_; rintro e w3 ⟨rfl, rfl⟩
    go_wp2_with fail
    refine (HVA.out _ hbw).mono ?_; rintro e w3 ⟨rfl, b3⟩
    have hb3 := hbw.trans (b3.mono hbw.size)
    have hB3 := hB.trans (b3.mono hB.size)
    clear HV g1 g2 hB b3 hbw
    cases rb
    · go_wp2_with fail
      go_ret
      exact VRQ.bad (E := 3) (by decide) rfl (hb.trans (hb3.mono hb.size))
    have f0 : w3.cell? ⟨w.heap.size + 1 + 1, 0, none⟩ = some (.slice fa F.length fc) := (HK.out _ hb3).f.c0
    have f2 : w3.cell? ⟨w.heap.size + 1 + 1, 2, none⟩ = some (.slice ra R.length rc) := (HK.out _ hb3).f.c2
    have x1 : w3.cell? ⟨w.heap.size + 1, 1, none⟩ = some (.slice va S.V.length vc) := (HK.out _ hb3).s.c1
    have x2 : w3.cell? ⟨w.heap.size + 1, 2, none⟩ = some (.slice qa S.Q.length qc) := (HK.out _ hb3).s.c2
    by_cases hFQ : F.length = S.Q.length
    rotate_left
    · have t1 : ((F.length : Int) != (S.Q.length : Int)) = true := by simp; omega
      clear hFQ
      go_wp2_with fail
      go_ret
      exact VRQ.bad (E := 6) (by decide) rfl (hb.trans (hb3.mono hb.size))
    have t1 : ((F.length : Int) != (S.Q.length : Int)) = false := by simp; omega
    by_cases hRV : R.length = S.V.length
    rotate_left
    · have t2 : ((R.length : Int) != (S.V.length : Int)) = true := by simp; omega
      clear hFQ hRV
      go_wp2_with fail
      go_ret
      exact VRQ.bad (E := 6) (by decide) rfl (hb.trans (hb3.mono hb.size))
    have t2 : ((R.length : Int) != (S.V.length : Int)) = false := by simp; omega
    have HFQ := Lib.hid hFQ
    have HRV := Lib.hid hRV
    have f1 : w3.cell? ⟨w.heap.size + 1 + 1, 1, none⟩ = some (.string ch) := (HK.out _ hb3).f.c1
    have u0 : w3.cell? ⟨w.heap.size, 0, none⟩ = some (.string C) := (HK.out _ hb3).u.c0
    have HCM := Lib.hid (fun w' => Cmp_any ch C (nv ch) (nv C) w' (isN_of_valid HCH.out) (isN_of_valid HCK.out.1))
    clear hFQ hRV
    rcases ncmpLt (nv ch) (nv C) with ⟨_, hz⟩ | ⟨_, hz | hz⟩
    rotate_left
    all_goals rw [hz] at HCM
    · clear hz
      go_wp2_with fail
      refine (HCM.out _).mono ?_; rintro e w4 ⟨rfl, rfl⟩
      go_wp2_with fail
      go_ret
      exact VRQ.bad (E := 2) (by decide) rfl (hb.trans (hb3.mono hb.size))
    · clear hz
      go_wp2_with fail
      refine (HCM.out _).mono ?_; rintro e w4 ⟨rfl, rfl⟩
      go_wp2_with fail
      go_ret
      exact VRQ.bad (E := 2) (by decide) rfl (hb.trans (hb3.mono hb.size))
    clear hz
    go_wp2_with fail
    refine (HCM.out _).mono ?_; rintro e w4 ⟨rfl, rfl⟩
    have HVv : Hid (NS w3 va S.V) := (HK.out _ hb3).S.v
    have HRr : Hid (IS w3 ra R) := (HK.out _ hb3).k.r
    have HLl := Lib.hid (HG1.out.keep (cells_keepL hB3 (Nat.le_refl _)))
    have HVK := Lib.hid (HVS.out HCK.out.2.2)
    clear HG1 HVS HCM t1 t2 f0 f1 x2 u0 HVA hB3
    go_wp2_with fail
    -- L2
    go_loopw [79] (fun v79 wr => ∃ k : Nat, k ≤ S.V.length ∧ v79 = .int .i64 (k : Int) ∧ Below w3.heap.size w3 wr) (fun v79 _ => S.V.length - (intOf v79).toNat)
    case atStart => exact ⟨0, by omega, rfl, Below.refl _ _⟩
    case round =>
      obtain ⟨k, hk, rfl, hB⟩ := hrel
      have hbw := hb3.trans (hB.mono hb3.size)
      by_cases hlt : k < S.V.length
      · obtain ⟨bv, ov, rfl, e0⟩ := (HVv.out.keepL (cells_keepL hB (Nat.le_refl _))) k hlt
        have hkR : k < R.length := by rw [HRV.out]; exact hlt
        obtain ⟨br, ob, rfl, r0, r1⟩ := (HRr.out.keepL (cells_keepL hB (Nat.le_refl _))) k hkR
        obtain ⟨bl, ol, rfl, l0, l1⟩ := (HLl.out.keep (cells_keepL hB (Nat.le_refl _))) k (by rw [List.length_map]; exact hlt)
        rw [List.getElem_map] at l1
        have hy1 := HVK.out.2 _ (List.getElem_mem hlt)
        have hy8 := HS3.out.2.2 _ (List.getElem_mem hlt)
        have hlim := isN_of_valid (limP_ok HCK.out.1 HCK.out.2.1 HVK.out.1 hy1 HS3.out.1 HS3.out.2.1 hy8)
        generalize (limP C L (ordL S.G) S.V[k]).2 = lim at l1 hlim
        have hiv : validB R[k].2 = true := by
          have h5 := List.all_eq_true.1 (show R.all ivB = true from HRI.out) _ (List.getElem_mem hkR)
          unfold ivB at h5
          rw [Bool.and_eq_true] at h5
          exact h5.1
        generalize S.V[k] = y at e0 hy1 hy8
        generalize R[k] = X at r0 r1 hiv
        obtain ⟨g, s⟩ := X
        simp only at r0 r1 hiv
        have HBL := Lib.hid (fun w' => sbelow_any y g s lim (nv s) (nv lim) w' (isN_of_valid hiv) hlim)
        obtain ⟨bb, hbb⟩ : ∃ b, blB y g (nv s) (nv lim) = b := ⟨_, rfl⟩
        rw [hbb] at HBL
        have hbN := (Below.refl _ wr).alloc (Nat.le_refl _) (.cells #[.string y] 77)
        have y0 := (VrB.new wr y).c0
        have f2 : wr.cell? ⟨w.heap.size + 1 + 1, 2, none⟩ = some (.slice (some ⟨br, ob, none⟩) R.length rc) := (HK.out _ hbw).f.c2
        have i1 : (0 : Int) ≤ (k : Int) := by omega
        have i2 : (k : Int) < (R.length : Int) := by omega
        have i3 : (k : Int) < (S.V.length : Int) := by omega
        clear hy1 hy8 hlim hiv hbb l0 hkR
        go_wp2_with fail
        replace f2 := cells_keepL hbN (Nat.le_refl _) _ _ f2
        replace r0 := cells_keepL hbN (Nat.le_refl _) _ _ r0
        replace r1 := cells_keepL hbN (Nat.le_refl _) _ _ r1
        replace l1 := cells_keepL hbN (Nat.le_refl _) _ _ l1
        have hbn := hbw.trans (hbN.mono hbw.size)
        have hBn := hB.trans (hbN.mono hB.size)
        clear e0 hbN hbw hB
        generalize wr.heap.size = q at y0 ⊢
        generalize World.alloc wr _ = wa at y0 f2 r0 r1 l1 hbn hBn ⊢
        have HMK := Lib.hid (fun w' (hw : Below wa.heap.size wa w') => (⟨cells_keepL hw (Nat.le_refl _) _ _ y0, cells_keepL hw (Nat.le_refl _) _ _ f2, cells_keepL hw (Nat.le_refl _) _ _ r0, cells_keepL hw (Nat.le_refl _) _ _ r1, cells_keepL hw (Nat.le_refl _) _ _ l1, hw⟩ : w'.cell? ⟨q, 0, none⟩ = some (.string y) ∧ w'.cell? ⟨w.heap.size + 1 + 1, 2, none⟩ = some (.slice (some ⟨br, ob, none⟩) R.length rc) ∧ w'.cell? ⟨br, ob + k * 2, none⟩ = some (.bool g) ∧ w'.cell? ⟨br, ob + k * 2 + 1, none⟩ = some (.string s) ∧ w'.cell? ⟨bl, ol + k * 2 + 1, none⟩ = some (.string lim) ∧ Below wa.heap.size wa w'))
        cases bb
        all_goals
          go_region_held3 (fun w' => w'.cell? ⟨q, 0, none⟩ = some (.string y) ∧ w'.cell? ⟨w.heap.size + 1 + 1, 2, none⟩ = some (.slice (some ⟨br, ob, none⟩) R.length rc) ∧ w'.cell? ⟨br, ob + k * 2, none⟩ = some (.bool g) ∧ w'.cell? ⟨br, ob + k * 2 + 1, none⟩ = some (.string s) ∧ w'.cell? ⟨bl, ol + k * 2 + 1, none⟩ = some (.string lim) ∧ Below wa.heap.size wa w')
            (first | assumption | (refine HMK.out _ ?_; first | assumption | with_reducible exact (Below.refl _ _).drew | with_reducible exact hbm))
            ((go_at_call 63; (with_reducible refine (HBL.out _).mono ?_); rintro e wn ⟨rfl, bn⟩; have hbm : Below wa.heap.size wa wn := (Below.refl _ wa).drew.trans (bn.mono (Nat.le_refl _))))
        · go_wp2_with fail
          go_ret
          exact VRQ.bad (E := 2) (by decide) rfl (hb.trans ((hbn.trans (hbm.mono hbn.size)).mono hb.size))
        · go_wp2_with fail
          exact ⟨⟨k + 1, by omega, by go_num, hBn.trans (hbm.mono hBn.size)⟩, by simp [intOf]; omega⟩
      obtain rfl : k = S.V.length := by omega
      obtain ⟨w5, rfl⟩ : ∃ w5 : World, w5 = wr := ⟨_, rfl⟩
      clear hB hb3 HVv HRr HLl HVK hlt hk f2 x1
      have x2 : w5.cell? ⟨w.heap.size + 1, 2, none⟩ = some (.slice qa S.Q.length qc) := (HK.out _ hbw).s.c2
      have HQq : Hid (QSl w5 qa S.Q) := (HK.out _ hbw).S.q
      have HGg : Hid (GSl w5 ga S.G) := (HK.out _ hbw).S.g
      have HFf : Hid (NS w5 fa F) := (HK.out _ hbw).k.f
      have HGR := Lib.hid (q_grp HCK.out.2.2)
      go_wp2_with fail
      -- L3
      go_loopw [101] (fun v101 wr => ∃ k : Nat, k ≤ S.Q.length ∧ v101 = .int .i64 (k : Int) ∧ Below w5.heap.size w5 wr) (fun v101 _ => S.Q.length - (intOf v101).toNat)
      case atStart => exact ⟨0, by omega, rfl, Below.refl _ _⟩
      case round =>
        obtain ⟨k, hk, rfl, hB⟩ := hrel
        have hbv := hbw.trans (hB.mono hbw.size)
        by_cases hlt : k < S.Q.length
        · obtain ⟨bq, oq, rfl, e0, e1, e2, hT⟩ := (HQq.out.keep (cells_keepL hB (Nat.le_refl _))) k hlt
          obtain ⟨j, hj1, hj2⟩ := HGR.out _ (List.getElem_mem hlt)
          obtain ⟨bg, og, rfl, g0, g1⟩ := (HGg.out.keep (cells_keepL hB (Nat.le_refl _))) j hj2
          have hkF : k < F.length := by rw [HFQ.out]; exact hlt
          obtain ⟨bf, ob, rfl, f0⟩ := (HFf.out.keepL (cells_keepL hB (Nat.le_refl _))) k hkF
          have x0 : wr.cell? ⟨w.heap.size + 1, 0, none⟩ = some (.slice (some ⟨bg, og, none⟩) S.G.length gc) := (HK.out _ hbv).s.c0
          have p0 : wr.cell? ⟨w.heap.size + 1 + 1, 0, none⟩ = some (.slice (some ⟨bf, ob, none⟩) F.length fc) := (HK.out _ hbv).f.c0
          have i1 : (0 : Int) ≤ (j : Int) := by omega
          have i2 : (j : Int) < (S.G.length : Int) := by omega
          have i3 : (0 : Int) ≤ (k : Int) := by omega
          have i4 : (k : Int) < (F.length : Int) := by omega
          have i5 : (k : Int) < (S.Q.length : Int) := by omega
          clear hT
          generalize S.Q[k] = x at e0 e1 e2 hj1
          obtain ⟨i, T, ta, tc, Lq⟩ := x
          simp only at e0 e1 e2 hj1
          subst hj1
          generalize S.G[j] = y at g0 g1
          obtain ⟨M, O⟩ := y
          simp only at g0 g1
          generalize F[k] = X at f0
          have hbN := (Below.refl _ wr).alloc (Nat.le_refl _) (.cells #[.int .i64 (j : Int), .string T, .slice ta Lq.length tc] 68)
          have q0 := (QB.new wr (j : Int) T (.slice ta Lq.length tc)).c0
          have HH := Lib.hid (fun w' => gHas_any M O X w')
          obtain ⟨bb, hbb⟩ : ∃ b, hasB M O X = b := ⟨_, rfl⟩
          rw [hbb] at HH
          clear hbb hkF hj2
          go_wp2_with fail
          replace x0 := cells_keepL hbN (Nat.le_refl _) _ _ x0
          replace p0 := cells_keepL hbN (Nat.le_refl _) _ _ p0
          replace g0 := cells_keepL hbN (Nat.le_refl _) _ _ g0
          replace g1 := cells_keepL hbN (Nat.le_refl _) _ _ g1
          replace f0 := cells_keepL hbN (Nat.le_refl _) _ _ f0
          have hbn := hbv.trans (hbN.mono hbv.size)
          have hBn := hB.trans (hbN.mono hB.size)
          clear e0 e1 e2 hbN hbv hB
          generalize wr.heap.size = q at q0 ⊢
          generalize World.alloc wr _ = wa at q0 x0 p0 g0 g1 f0 hbn hBn ⊢
          have HMK := Lib.hid (fun w' (hw : Below wa.heap.size wa w') => (⟨cells_keepL hw (Nat.le_refl _) _ _ x0, cells_keepL hw (Nat.le_refl _) _ _ q0, cells_keepL hw (Nat.le_refl _) _ _ g0, cells_keepL hw (Nat.le_refl _) _ _ g1, cells_keepL hw (Nat.le_refl _) _ _ p0, cells_keepL hw (Nat.le_refl _) _ _ f0, hw⟩ : w'.cell? ⟨w.heap.size + 1, 0, none⟩ = some (.slice (some ⟨bg, og, none⟩) S.G.length gc) ∧ w'.cell? ⟨q, 0, none⟩ = some (.int .i64 (j : Int)) ∧ w'.cell? ⟨bg, og + j * 2, none⟩ = some (.string M) ∧ w'.cell? ⟨bg, og + j * 2 + 1, none⟩ = some (.string O) ∧ w'.cell? ⟨w.heap.size + 1 + 1, 0, none⟩ = some (.slice (some ⟨bf, ob, none⟩) F.length fc) ∧ w'.cell? ⟨bf, ob + k, none⟩ = some (.string X) ∧ Below wa.heap.size wa w'))
          cases bb
          all_goals
            go_region_held3 (fun w' => w'.cell? ⟨w.heap.size + 1, 0, none⟩ = some (.slice (some ⟨bg, og, none⟩) S.G.length gc) ∧ w'.cell? ⟨q, 0, none⟩ = some (.int .i64 (j : Int)) ∧ w'.cell? ⟨bg, og + j * 2, none⟩ = some (.string M) ∧ w'.cell? ⟨bg, og + j * 2 + 1, none⟩ = some (.string O) ∧ w'.cell? ⟨w.heap.size + 1 + 1, 0, none⟩ = some (.slice (some ⟨bf, ob, none⟩) F.length fc) ∧ w'.cell? ⟨bf, ob + k, none⟩ = some (.string X) ∧ Below wa.heap.size wa w')
              (first | assumption | (refine HMK.out _ ?_; first | assumption | with_reducible exact (Below.refl _ _).drew | with_reducible exact hbm))
              ((go_at_call 39; (with_reducible refine (HH.out _).mono ?_); rintro e wn ⟨rfl, bn⟩; have hbm : Below wa.heap.size wa wn := (Below.refl _ wa).drew.trans (bn.mono (Nat.le_refl _))))
          · go_wp2_with fail
            go_ret
            exact VRQ.bad (E := 13) (by decide) rfl (hb.trans ((hbn.trans (hbm.mono hbn.size)).mono hb.size))
          · go_wp2_with fail
            exact ⟨⟨k + 1, by omega, by go_num, hBn.trans (hbm.mono hBn.size)⟩, by simp [intOf]; omega⟩
        obtain rfl : k = S.Q.length := by omega
        obtain ⟨w6, rfl⟩ : ∃ w6 : World, w6 = wr := ⟨_, rfl⟩
        clear hB hbw HQq HGg HFf hlt hk x2
        have x0 : w6.cell? ⟨w.heap.size + 1, 0, none⟩ = some (.slice ga S.G.length gc) := (HK.out _ hbv).s.c0
        have x1 : w6.cell? ⟨w.heap.size + 1, 1, none⟩ = some (.slice va S.V.length vc) := (HK.out _ hbv).s.c1
        have x2 : w6.cell? ⟨w.heap.size + 1, 2, none⟩ = some (.slice qa S.Q.length qc) := (HK.out _ hbv).s.c2
        have f2 : w6.cell? ⟨w.heap.size + 1 + 1, 2, none⟩ = some (.slice ra R.length rc) := (HK.out _ hbv).f.c2
        go_wp2_with fail
        refine (HIM.out _ hbv).mono ?_; rintro e w7 ⟨io, m, ic, rfl, hm, hN, b7⟩
        have hb7 := hbv.trans (b7.mono hbv.size)
        clear HIM x0 x1 x2 f2 hbv b7
        by_cases h0 : Z = 0
        rotate_left
        · have ht : (Z != 0) = true := by simpa using h0
          go_wp2_with fail
          go_ret
          exact VRQ.bad h0 rfl (hb.trans (hb7.mono hb.size))
        subst h0
        have hIQ := HLEN.out rfl
        obtain rfl : m = S.Q.length := hm.trans hIQ
        have HIQ := Lib.hid hIQ
        have HI7 := Lib.hid hN
        have x2 : w7.cell? ⟨w.heap.size + 1, 2, none⟩ = some (.slice qa S.Q.length qc) := (HK.out _ hb7).s.c2
        have HQq : Hid (QSl w7 qa S.Q) := (HK.out _ hb7).S.q
        have HGg : Hid (GSl w7 ga S.G) := (HK.out _ hb7).S.g
        have HFf : Hid (NS w7 fa F) := (HK.out _ hb7).k.f
        clear HLEN hm hN hIQ
        go_wp2_with fail
        -- L4
        go_loopw [133] (fun v133 wr => ∃ k : Nat, k ≤ S.Q.length ∧ v133 = .int .i64 (k : Int) ∧ Below w7.heap.size w7 wr) (fun v133 _ => S.Q.length - (intOf v133).toNat)
        case atStart => exact ⟨0, by omega, rfl, Below.refl _ _⟩
        case round =>
          obtain ⟨k, hk, rfl, hB⟩ := hrel
          have hbv := hb7.trans (hB.mono hb7.size)
          by_cases hlt : k < S.Q.length
          · obtain ⟨bq, oq, rfl, e0, e1, e2, hT⟩ := (HQq.out.keep (cells_keepL hB (Nat.le_refl _))) k hlt
            obtain ⟨j, hj1, hj2⟩ := HGR.out _ (List.getElem_mem hlt)
            obtain ⟨bg, og, rfl, g0, g1⟩ := (HGg.out.keep (cells_keepL hB (Nat.le_refl _))) j hj2
            have hkF : k < F.length := by rw [HFQ.out]; exact hlt
            have hkI : k < I.length := by rw [HIQ.out]; exact hlt
            obtain ⟨bf, ob, rfl, f0⟩ := (HFf.out.keepL (cells_keepL hB (Nat.le_refl _))) k hkF
            obtain ⟨bi, oi, rfl, m0⟩ := (HI7.out.keepL (cells_keepL hB (Nat.le_refl _))) k hkI
            have x0 : wr.cell? ⟨w.heap.size + 1, 0, none⟩ = some (.slice (some ⟨bg, og, none⟩) S.G.length gc) := (HK.out _ hbv).s.c0
            have p0 : wr.cell? ⟨w.heap.size + 1 + 1, 0, none⟩ = some (.slice (some ⟨bf, ob, none⟩) F.length fc) := (HK.out _ hbv).f.c0
            have p1 : wr.cell? ⟨w.heap.size + 1 + 1, 1, none⟩ = some (.string ch) := (HK.out _ hbv).f.c1
            have i1 : (0 : Int) ≤ (j : Int) := by omega
            have i2 : (j : Int) < (S.G.length : Int) := by omega
            have i3 : (0 : Int) ≤ (k : Int) := by omega
            have i4 : (k : Int) < (F.length : Int) := by omega
            have i5 : (k : Int) < (S.Q.length : Int) := by omega
            clear hT
            generalize S.Q[k] = x at e0 e1 e2 hj1
            obtain ⟨i, T, ta, tc, Lq⟩ := x
            simp only at e0 e1 e2 hj1
            subst hj1
            generalize S.G[j] = y at g0 g1
            obtain ⟨M, O⟩ := y
            simp only at g0 g1
            generalize F[k] = X at f0
            generalize I[k] = Y at m0
            have hbN := (Below.refl _ wr).alloc (Nat.le_refl _) (.cells #[.int .i64 (j : Int), .string T, .slice ta Lq.length tc] 68)
            have hQB := QB.new wr (j : Int) T (.slice ta Lq.length tc)
            have q0 := hQB.c0
            replace x0 := cells_keepL hbN (Nat.le_refl _) _ _ x0
            replace p0 := cells_keepL hbN (Nat.le_refl _) _ _ p0
            replace p1 := cells_keepL hbN (Nat.le_refl _) _ _ p1
            replace g0 := cells_keepL hbN (Nat.le_refl _) _ _ g0
            replace g1 := cells_keepL hbN (Nat.le_refl _) _ _ g1
            replace f0 := cells_keepL hbN (Nat.le_refl _) _ _ f0
            replace m0 := cells_keepL hbN (Nat.le_refl _) _ _ m0
            have hbn := hbv.trans (hbN.mono hbv.size)
            have hBn := hB.trans (hbN.mono hB.size)
            have HFR := Lib.hid (fun w' => vfrom_any ch w' HCH.out)
            have HEX := Lib.hid (fun w' => gExp_any M O T false ch w')
            generalize gpS M O [T] [(false, ch)] = X1 at HEX
            generalize gpE M O [T] [(false, ch)] = E1 at HEX
            have HMU := Lib.hid (fun w' => gMul_any M O X X1 w')
            generalize gmS M O X X1 = Y1 at HMU
            generalize gmE M O X X1 = E2 at HMU
            clear hkF hkI hj2 hbN hbv hB
            go_upto_region 34 with fail
            clear e0 e1 e2
            have q1 := hQB.c1
            clear hQB
            generalize wr.heap.size = q at q0 q1 ⊢
            generalize World.alloc wr _ = wa at q0 q1 x0 p0 p1 g0 g1 f0 m0 hbn hBn ⊢
            have hbG := (Below.refl _ wa).alloc (Nat.le_refl _) (.cells #[.string M, .string O] 26)
            have hGB := GB.new wa M O
            go_upto_region 35 with fail
            replace q1 := cells_keepL hbG (Nat.le_refl _) _ _ q1
            replace p0 := cells_keepL hbG (Nat.le_refl _) _ _ p0
            replace p1 := cells_keepL hbG (Nat.le_refl _) _ _ p1
            replace f0 := cells_keepL hbG (Nat.le_refl _) _ _ f0
            replace m0 := cells_keepL hbG (Nat.le_refl _) _ _ m0
            replace hbn := hbn.trans (hbG.mono hbn.size)
            replace hBn := hBn.trans (hbG.mono hBn.size)
            have k0 := hGB.c0
            have k1 := hGB.c1
            clear hbG hGB q0 x0 g0 g1
            generalize wa.heap.size = r at k0 k1 ⊢
            generalize World.alloc wa _ = wb at q1 p0 p1 f0 m0 hbn hBn k0 k1 ⊢
            have HMK := Lib.hid (fun w' (hw : Below wb.heap.size wb w') => (⟨cells_keepL hw (Nat.le_refl _) _ _ k0, cells_keepL hw (Nat.le_refl _) _ _ k1, cells_keepL hw (Nat.le_refl _) _ _ q1, cells_keepL hw (Nat.le_refl _) _ _ p1, hw⟩ : w'.cell? ⟨r, 0, none⟩ = some (.string M) ∧ w'.cell? ⟨r, 1, none⟩ = some (.string O) ∧ w'.cell? ⟨q, 1, none⟩ = some (.string T) ∧ w'.cell? ⟨w.heap.size + 1 + 1, 1, none⟩ = some (.string ch) ∧ Below wb.heap.size wb w'))
            go_region_held3 (fun w' => w'.cell? ⟨r, 0, none⟩ = some (.string M) ∧ w'.cell? ⟨r, 1, none⟩ = some (.string O) ∧ w'.cell? ⟨q, 1, none⟩ = some (.string T) ∧ w'.cell? ⟨w.heap.size + 1 + 1, 1, none⟩ = some (.string ch) ∧ Below wb.heap.size wb w')
              (first | assumption | (refine HMK.out _ ?_; first | assumption | with_reducible exact (Below.refl _ _).drew | with_reducible exact hbm | with_reducible exact hbp))
              (first
                | (go_at_call 65; (with_reducible refine (HFR.out _).mono ?_); rintro e wn ⟨rfl, bn⟩; have hbm : Below wb.heap.size wb wn := (Below.refl _ wb).drew.trans (bn.mono (Nat.le_refl _)))
                | (go_at_call 64; (with_reducible refine (HEX.out _).mono ?_); rintro e wp ⟨rfl, bp⟩; have hbp : Below wb.heap.size wb wp := hbm.trans (bp.mono hbm.size)))
            clear HMK
            go_upto_region 36 with fail
            replace k0 := cells_keepL hbp (Nat.le_refl _) _ _ k0
            replace k1 := cells_keepL hbp (Nat.le_refl _) _ _ k1
            replace p0 := cells_keepL hbp (Nat.le_refl _) _ _ p0
            replace f0 := cells_keepL hbp (Nat.le_refl _) _ _ f0
            replace m0 := cells_keepL hbp (Nat.le_refl _) _ _ m0
            replace hbn := hbn.trans (hbp.mono hbn.size)
            replace hBn := hBn.trans (hbp.mono hBn.size)
            clear hbp q1 p1 HFR HEX
            have HMK := Lib.hid (fun w' (hw : Below wp.heap.size wp w') => (⟨cells_keepL hw (Nat.le_refl _) _ _ k0, cells_keepL hw (Nat.le_refl _) _ _ k1, cells_keepL hw (Nat.le_refl _) _ _ p0, cells_keepL hw (Nat.le_refl _) _ _ f0, hw⟩ : w'.cell? ⟨r, 0, none⟩ = some (.string M) ∧ w'.cell? ⟨r, 1, none⟩ = some (.string O) ∧ w'.cell? ⟨w.heap.size + 1 + 1, 0, none⟩ = some (.slice (some ⟨bf, ob, none⟩) F.length fc) ∧ w'.cell? ⟨bf, ob + k, none⟩ = some (.string X) ∧ Below wp.heap.size wp w'))
            go_region_held3 (fun w' => w'.cell? ⟨r, 0, none⟩ = some (.string M) ∧ w'.cell? ⟨r, 1, none⟩ = some (.string O) ∧ w'.cell? ⟨w.heap.size + 1 + 1, 0, none⟩ = some (.slice (some ⟨bf, ob, none⟩) F.length fc) ∧ w'.cell? ⟨bf, ob + k, none⟩ = some (.string X) ∧ Below wp.heap.size wp w')
              (first | assumption | (refine HMK.out _ ?_; first | assumption | with_reducible exact (Below.refl _ _).drew | with_reducible exact hbu))
              ((go_at_call 66; (with_reducible refine (HMU.out _).mono ?_); rintro e wu ⟨rfl, bu⟩; have hbu : Below wp.heap.size wp wu := (Below.refl _ wp).drew.trans (bu.mono (Nat.le_refl _))))
            replace m0 := cells_keepL hbu (Nat.le_refl _) _ _ m0
            replace hbn := hbn.trans (hbu.mono hbn.size)
            replace hBn := hBn.trans (hbu.mono hBn.size)
            clear HMK hbu HMU
            cases hbb : (Y1.toList == Y.toList)
            · have hbb2 : ¬ Y1.toList = Y.toList := by simpa using hbb
              go_wp2_with fail
              go_ret
              exact VRQ.bad (E := 16) (by decide) rfl (hb.trans (hbn.mono hb.size))
            · have hbb2 : Y1.toList = Y.toList := by simpa using hbb
              go_wp2_with fail
              exact ⟨⟨k + 1, by omega, by go_num, hBn⟩, by simp [intOf]; omega⟩
          obtain rfl : k = S.Q.length := by omega
          have HFIN := Lib.hid (HOK.out HCH.out (by trivial) HRV.out HCK.out.2.2)
          go_wp2_with fail
          go_ret
          exact VRQ.ok HFIN.out rfl (hb.trans (hbv.mono hb.size))
        -- L4
      -- L3
    -- L2
end Go.Proofs.YtdlbnioidfhhcaaGreat
