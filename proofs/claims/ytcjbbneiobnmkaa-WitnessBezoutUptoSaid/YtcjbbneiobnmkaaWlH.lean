/- The law WitnessBezout. -/
import Derived.Test.YtcjbbneiobnmkaaWlE
namespace Go.Proofs.Ytcjbbneiobnmkaa
open Go.RowKit Num
set_option maxRecDepth 20000
set_option linter.unusedVariables false
theorem gx_ok {u : ByteArray} {la ld : List ByteArray} (hu : wrB u = false) (ha : ∀ n ∈ la, wrB n = false) (hd : ∀ n ∈ ld, wrB n = false) : gxE u la ld = wxE u la ld := by
  have hw : ∀ x ∈ u :: (la ++ ld), wrB x = false := by
    intro y hy
    simp only [List.mem_cons, List.mem_append] at hy
    rcases hy with rfl | hy | hy
    · exact hu
    · exact ha y hy
    · exact hd y hy
  unfold gxE
  rw [if_pos (List.all_eq_true.2 fun x hx => (wrB_no (hw x hx)).2), if_pos]
  unfold nzB
  exact List.all_eq_true.2 fun x hx => by rw [(wrB_no (hw x hx)).1]; rfl
theorem blen_mul_le (a b : Nat) : blen (a * b) ≤ blen a + blen b := by
  rw [blen_le_iff, Nat.pow_add]
  exact Nat.mul_lt_mul'' ((blen_le_iff a _).1 (Nat.le_refl _)) ((blen_le_iff b _).1 (Nat.le_refl _))
/-- the identity, in whole numbers -/
theorem bez_plain {u : ByteArray} {la ld : List ByteArray} (hd : ∀ n ∈ ld, wrB n = false) (h0 : wxE u la ld = 0) :
    ∃ n y : Nat, zs (wxX u la ld) = enc n ∧ zb (wxY u la ld) = false ∧ zs (wxY u la ld) = enc y ∧ y < pdL (ld.map nv) ∧ blen n ≤ 128 ∧ blen y ≤ 128 ∧ ZOk (wxX u la ld) ∧
      ((zb (wxX u la ld) = true ∧ n * pdL (ld.map nv) + pdL (la.map nv) = y * nv u * pdL (la.map nv)) ∨ (zb (wxX u la ld) = false ∧ n * pdL (ld.map nv) + y * nv u * pdL (la.map nv) = pdL (la.map nv))) := by
  have hp := posN_wr hd
  obtain ⟨h1, h2, h3, h4, h5⟩ := wxE_inv h0
  obtain ⟨zx, zy⟩ := wx_zok h0 hp
  have hb := wx_bez h0 hp
  have hY : wxY u la ld = (wtY (nv u) (pdL (ld.map nv)) : Int) := by rw [wxY, h0, zif_zero]
  have hlt := (wt_ok hp.pd h4).2
  obtain ⟨y, hy⟩ : ∃ y, wtY (nv u) (pdL (ld.map nv)) = y := ⟨_, rfl⟩
  rw [hy] at hY hlt
  rw [hY] at hb zy ⊢
  refine ⟨(wxX u la ld).natAbs, y, rfl, decide_eq_false (by omega), rfl, hlt, zx, zy, zx, ?_⟩
  obtain ⟨X, hX⟩ : ∃ X, wxX u la ld = X := ⟨_, rfl⟩
  rw [hX] at hb ⊢
  generalize pdL (ld.map nv) = D at hb ⊢
  generalize pdL (la.map nv) = A at hb ⊢
  generalize nv u = U at hb ⊢
  have e2 : (y : Int) * (U : Int) * (A : Int) = ((y * U * A : Nat) : Int) := by rw [Int.natCast_mul, Int.natCast_mul]
  rw [e2] at hb
  by_cases hs : X < 0
  · left
    refine ⟨decide_eq_true hs, ?_⟩
    have e1 : X * (D : Int) = -((X.natAbs * D : Nat) : Int) := by
      rw [Int.natCast_mul, ← Int.neg_mul]; congr 1; omega
    rw [e1] at hb
    omega
  · right
    refine ⟨decide_eq_false hs, ?_⟩
    have e1 : X * (D : Int) = ((X.natAbs * D : Nat) : Int) := by
      rw [Int.natCast_mul]; congr 1; omega
    rw [e1] at hb
    omega
/-- the boxes of the law -/
structure BX (w0 W : World) (b : Nat) (u wt : ByteArray) (a1 : Option Addr) (n1 c1 : Nat) (a2 : Option Addr) (n2 c2 : Nat) (acc : ByteArray) (la ld : List ByteArray) : Prop where
  c : CB W b u wt a1 n1 c1 a2 n2 c2 acc
  ca : CA W a1 n1 c1 la a2 n2 c2 ld
  lo : Below w0.heap.size w0 W
structure BY (w0 W : World) (b m : Nat) (g1 : Bool) (s1 : ByteArray) (g2 : Bool) (s2 : ByteArray) (u wt : ByteArray) (a1 : Option Addr) (n1 c1 : Nat) (a2 : Option Addr) (n2 c2 : Nat) (acc : ByteArray) (la ld : List ByteArray) : Prop where
  c : CB W b u wt a1 n1 c1 a2 n2 c2 acc
  ca : CA W a1 n1 c1 la a2 n2 c2 ld
  lo : Below w0.heap.size w0 W
  i1 : IB W m g1 s1
  i2 : IB W (m + 1) g2 s2
section
variable {u wt : ByteArray} {a1 : Option Addr} {n1 c1 : Nat} {a2 : Option Addr} {n2 c2 : Nat} {acc : ByteArray} {la ld : List ByteArray} {m : Nat} {g1 g2 : Bool} {s1 s2 : ByteArray} {w0 W W' : World} {b : Nat}
theorem BX.below (h : BX w0 W b u wt a1 n1 c1 a2 n2 c2 acc la ld) (hb : Below W.heap.size W W') : BX w0 W' b u wt a1 n1 c1 a2 n2 c2 acc la ld := ⟨h.c.below hb h.c.lt, h.ca.below hb (Nat.le_refl _), h.lo.trans (hb.mono h.lo.size)⟩
theorem BY.below (h : BY w0 W b m g1 s1 g2 s2 u wt a1 n1 c1 a2 n2 c2 acc la ld) (hb : Below W.heap.size W W') : BY w0 W' b m g1 s1 g2 s2 u wt a1 n1 c1 a2 n2 c2 acc la ld :=
  ⟨h.c.below hb h.c.lt, h.ca.below hb (Nat.le_refl _), h.lo.trans (hb.mono h.lo.size), h.i1.below hb h.i1.lt, h.i2.below hb h.i2.lt⟩
theorem BY.drew (h : BY w0 W b m g1 s1 g2 s2 u wt a1 n1 c1 a2 n2 c2 acc la ld) : BY w0 W.drew b m g1 s1 g2 s2 u wt a1 n1 c1 a2 n2 c2 acc la ld := h.below (Below.refl _ W).drew
theorem by_all (h : BY w0 W b m g1 s1 g2 s2 u wt a1 n1 c1 a2 n2 c2 acc la ld) : W.cell? ⟨b, 2, none⟩ = some (.slice a1 n1 c1) ∧ W.cell? ⟨b, 3, none⟩ = some (.slice a2 n2 c2) ∧ BY w0 W b m g1 s1 g2 s2 u wt a1 n1 c1 a2 n2 c2 acc la ld := ⟨h.c.c2, h.c.c3, h⟩
theorem by_keep (h : W.cell? ⟨b, 2, none⟩ = some (.slice a1 n1 c1) ∧ W.cell? ⟨b, 3, none⟩ = some (.slice a2 n2 c2) ∧ BY w0 W b m g1 s1 g2 s2 u wt a1 n1 c1 a2 n2 c2 acc la ld) (hb : Below W.heap.size W W') : W'.cell? ⟨b, 2, none⟩ = some (.slice a1 n1 c1) ∧ W'.cell? ⟨b, 3, none⟩ = some (.slice a2 n2 c2) ∧ BY w0 W' b m g1 s1 g2 s2 u wt a1 n1 c1 a2 n2 c2 acc la ld := by_all (h.2.2.below hb)
theorem by_fin (h : W.cell? ⟨b, 2, none⟩ = some (.slice a1 n1 c1) ∧ W.cell? ⟨b, 3, none⟩ = some (.slice a2 n2 c2) ∧ BY w0 W b m g1 s1 g2 s2 u wt a1 n1 c1 a2 n2 c2 acc la ld) : BY w0 W b m g1 s1 g2 s2 u wt a1 n1 c1 a2 n2 c2 acc la ld := h.2.2
theorem by_last (h : W.cell? ⟨b, 2, none⟩ = some (.slice a1 n1 c1) ∧ W.cell? ⟨b, 3, none⟩ = some (.slice a2 n2 c2) ∧ BY w0 W b m g1 s1 g2 s2 u wt a1 n1 c1 a2 n2 c2 acc la ld) : CA W a1 n1 c1 la a2 n2 c2 ld := h.2.2.ca
theorem by_pair {g1 g2 : Bool} {s1 s2 : ByteArray} (h : BX w0 W b u wt a1 n1 c1 a2 n2 c2 acc la ld) : BY w0 ((W.alloc (.cells #[.bool g1, .string s1] 34)).alloc (.cells #[.bool g2, .string s2] 34)) b W.heap.size g1 s1 g2 s2 u wt a1 n1 c1 a2 n2 c2 acc la ld := by
  have hA := ((Below.refl _ W).alloc (Nat.le_refl _) (.cells #[.bool g1, .string s1] 34)).alloc (by simp) (.cells #[.bool g2, .string s2] 34)
  have h2 := IB.new (W.alloc (.cells #[.bool g1, .string s1] 34)) g2 s2
  rw [World.size_alloc] at h2
  have h' := h.below hA
  exact ⟨h'.c, h'.ca, h'.lo, (Below.heap_alloc _ _ _ (IB.new W g1 s1).lt).trans (IB.new W g1 s1), h2⟩
theorem by_two {g1 g2 : Bool} {s1 s2 : ByteArray} (h : BX w0 W b u wt a1 n1 c1 a2 n2 c2 acc la ld) : ∃ W', (W.alloc (.cells #[.bool g1, .string s1] 34)).alloc (.cells #[.bool g2, .string s2] 34) = W' ∧ BY w0 W' b W.heap.size g1 s1 g2 s2 u wt a1 n1 c1 a2 n2 c2 acc la ld := ⟨_, rfl, by_pair h⟩
end
set_option maxHeartbeats 8000000 in
theorem wbez_walk (u wt : ByteArray) (a1 : Option Addr) (n1 c1 : Nat) (a2 : Option Addr) (n2 c2 : Nat) (acc : ByteArray) (la ld : List ByteArray) (w : World) (hsz : ∀ x ∈ ([⟨#[]⟩, ⟨#[]⟩, u, wt, acc] ++ la) ++ ld, x.size ≤ maxLen) (hca : CA w a1 n1 c1 la a2 n2 c2 ld) :
    Calls Try.prog 3 #[.agg #[.string u, .string wt, .slice a1 n1 c1, .slice a2 n2 c2, .string acc]] w fun e w' => e = .returned (.bool true) ∧ Below w.heap.size w w' := by
  have hb := (Below.refl _ w).alloc (Nat.le_refl _) (.cells #[.string u, .string wt, .slice a1 n1 c1, .slice a2 n2 c2, .string acc] 25)
  have x0 : BX w (w.alloc (.cells #[.string u, .string wt, .slice a1 n1 c1, .slice a2 n2 c2, .string acc] 25)) w.heap.size u wt a1 n1 c1 a2 n2 c2 acc la ld := ⟨CB.new w u wt a1 n1 c1 a2 n2 c2 acc, hca.below hb (Nat.le_refl _), hb⟩
  obtain ⟨w0, hw0⟩ : ∃ w0, w.alloc (.cells #[.string u, .string wt, .slice a1 n1 c1, .slice a2 n2 c2, .string acc] 25) = w0 := ⟨_, rfl⟩
  rw [hw0] at x0
  have HS := Lib.hid (fun w h => small_ca ⟨#[]⟩ ⟨#[]⟩ ⟨#[]⟩ ⟨#[]⟩ ⟨#[]⟩ (.slice none 0 0) ⟨#[]⟩ ⟨#[]⟩ u wt a1 n1 c1 a2 n2 c2 acc la ld hsz w h)
  have k0_0 := x0.c.c0
  have k1_0 := x0.c.c1
  have k2_0 := x0.c.c2
  have k3_0 := x0.c.c3
  have k4_0 := x0.c.c4
  clear hca hb
  cases hs : smB ⟨#[]⟩ ⟨#[]⟩ u wt acc la ld
  · rw [hs] at HS
    clear hs hsz
    go_enter Try.func3, Try.ntmps3
    go_wp2_with fail
    refine (HS.out _ x0.ca).mono ?_; rintro e w1 ⟨rfl, b1⟩
    have x1 := x0.below b1
    go_wp2_with fail
    refine (awakeW _).mono ?_; rintro e wa ⟨rfl, ba⟩
    go_wp2_with fail
    go_ret
    exact ⟨rfl, (x1.below ba).lo⟩
  obtain ⟨l1, l2, _, h16⟩ := smB_ok hs
  have su := h16 u (by simp)
  rw [hs] at HS
  clear hs hsz h16
  go_enter Try.func3, Try.ntmps3
  go_wp2_with fail
  refine (HS.out _ x0.ca).mono ?_; rintro e w1 ⟨rfl, b1⟩
  have x1 := x0.below b1
  clear k0_0 k1_0 k2_0 k3_0 k4_0
  have k0_1 := x1.c.c0
  have k1_1 := x1.c.c1
  have k2_1 := x1.c.c2
  have k3_1 := x1.c.c3
  have k4_1 := x1.c.c4
  clear HS
  have b2 := (Below.refl _ w1).alloc (Nat.le_refl _) (.cells #[.string u] 22)
  have hN2 := ns_one w1 u
  obtain ⟨w2, hw2⟩ : ∃ w', w1.alloc (.cells #[.string u] 22) = w' := ⟨_, rfl⟩
  rw [hw2] at b2 hN2
  have x2 := x1.below b2
  have k0_2 := x2.c.c0
  have k1_2 := x2.c.c1
  have k2_2 := x2.c.c2
  have k3_2 := x2.c.c3
  have k4_2 := x2.c.c4
  go_wp2_with fail
  refine (wrong_any _ _ 1 [u] _ hN2 rfl (by decide)).mono ?_; rintro e w2b ⟨rfl, rfl⟩
  cases hu : [u].any wrB
  rotate_left
  · clear hu
    go_wp2_with fail
    refine (awakeW _).mono ?_; rintro e wa ⟨rfl, ba⟩
    go_wp2_with fail
    go_ret
    exact ⟨rfl, (x2.below ba).lo⟩
  have hu' : wrB u = false := any_wr hu _ (by simp)
  go_wp2_with fail
  refine (wrong_any a1 c1 n1 la _ x2.ca.l1 x2.ca.e1 (Nat.le_trans x2.ca.b1 (by decide))).mono ?_; rintro e w2c ⟨rfl, rfl⟩
  cases ha : la.any wrB
  rotate_left
  · clear ha
    go_wp2_with fail
    refine (awakeW _).mono ?_; rintro e wa ⟨rfl, ba⟩
    go_wp2_with fail
    go_ret
    exact ⟨rfl, (x2.below ba).lo⟩
  have ha' := any_wr ha
  go_wp2_with fail
  refine (wrong_any a2 c2 n2 ld _ x2.ca.l2 x2.ca.e2 (Nat.le_trans x2.ca.b2 (by decide))).mono ?_; rintro e w2c ⟨rfl, rfl⟩
  cases hd : ld.any wrB
  rotate_left
  · clear hd
    go_wp2_with fail
    refine (awakeW _).mono ?_; rintro e wa ⟨rfl, ba⟩
    go_wp2_with fail
    go_ret
    exact ⟨rfl, (x2.below ba).lo⟩
  have hd' := any_wr hd
  have hgx := gx_ok hu' ha' hd'
  have HE := fun w (h : CA w a1 n1 c1 la a2 n2 c2 ld) => wExponents_any u a1 a2 c1 c2 n1 n2 la ld w h.l1 h.l2 h.e1 h.e2 (by have := h.e1; omega) (by have := h.e2; omega)
  unfold XG at HE
  rw [hgx] at HE
  clear hgx
  by_cases h0 : wxE u la ld = 0
  rotate_left
  · have p3 := wxE_cases u la ld
    have hz : ∀ z, zif (wxE u la ld) z = 0 := zif_bad h0
    simp only [hz] at HE
    have z1 : zb 0 = false := rfl
    have z2 : zs 0 = ⟨#[]⟩ := by decide
    rw [z1, z2] at HE
    obtain ⟨E, hE⟩ : ∃ E, wxE u la ld = E := ⟨_, rfl⟩
    rw [hE] at HE p3 h0
    have HE := Lib.hid HE
    clear hz z1 z2 hE hu hu' ha ha' hd hd'
    go_wp2_with fail
    refine (HE.out _ x2.ca).mono ?_; rintro e w3 ⟨rfl, b3⟩
    have x3 := x2.below b3
    have x4 := by_pair (g1 := false) (s1 := ⟨#[]⟩) (g2 := false) (s2 := ⟨#[]⟩) x3
    have k0_4 := x4.c.c0
    have k1_4 := x4.c.c1
    have k2_4 := x4.c.c2
    have k3_4 := x4.c.c3
    have k4_4 := x4.c.c4
    have p0_4 := x4.i1.c0
    have q0_4 := x4.i2.c0
    have p1_4 := x4.i1.c1
    have q1_4 := x4.i2.c1
    rcases p3 with rfl | rfl | rfl | rfl
    · exact absurd rfl h0
    · clear HE
      go_wp2_with fail
      refine (awakeW _).mono ?_; rintro e wa ⟨rfl, ba⟩
      go_wp2_with fail
      go_ret
      exact ⟨rfl, (x4.below ba).lo⟩
    · clear HE
      go_wp2_with fail
      refine (awakeW _).mono ?_; rintro e wa ⟨rfl, ba⟩
      go_wp2_with fail
      go_ret
      exact ⟨rfl, (x4.below ba).lo⟩
    · clear HE
      go_wp2_with fail
      refine (awakeW _).mono ?_; rintro e wa ⟨rfl, ba⟩
      go_wp2_with fail
      go_ret
      exact ⟨rfl, (x4.below ba).lo⟩
  obtain ⟨n, y, e1, e2, e3, e4, e5, e6, e7, e8⟩ := bez_plain (la := la) hd' h0
  obtain ⟨_, d1, d2, _, _⟩ := wxE_inv h0
  rw [h0, zif_zero, zif_zero, e1, e2, e3] at HE
  have hva : ∀ x ∈ la, IsN x (nv x) := fun x hx => isN_of_valid (wrB_no (ha' x hx)).2
  have hvd : ∀ x ∈ ld, IsN x (nv x) := fun x hx => isN_of_valid (wrB_no (hd' x hx)).2
  have hun := isN_of_valid (wrB_no hu').2
  have HPa := fun w (h : CA w a1 n1 c1 la a2 n2 c2 ld) => rprod_any a1 c1 n1 la w h.l1 h.e1 (by have := h.e1; omega) hva
  have HPd := fun w (h : CA w a1 n1 c1 la a2 n2 c2 ld) => rprod_any a2 c2 n2 ld w h.l2 h.e2 (by have := h.e2; omega) hvd
  have HV := fun w => ref2Valid_z (wxX u la ld) w e7
  rw [e1] at HV
  obtain ⟨A, hA⟩ : ∃ A, pdL (la.map nv) = A := ⟨_, rfl⟩
  obtain ⟨Q, hQ⟩ : ∃ A, pdL (ld.map nv) = A := ⟨_, rfl⟩
  rw [hA] at HPa e8 d1
  rw [hQ] at HPd e8 e4 d2
  have bn := blen_mul_le n Q
  have by1 := blen_mul_le y (nv u)
  have by2 := blen_mul_le (y * nv u) A
  have bu := hun.le
  have HO := fun w => refOrder_any (enc y) (enc Q) y Q w rfl rfl (by rw [size_enc]; omega) (by rw [size_enc]; omega)
  have hnc : ncmp y Q = -1 := if_pos e4
  rw [hnc] at HO
  have HT1 := fun w => refTimes_any (enc n) (enc Q) n Q w rfl rfl (by rw [size_enc]; omega) (by rw [size_enc]; omega)
  have HT2 := fun w => refTimes_any (enc y) u y (nv u) w rfl hun.eq (by rw [size_enc]; omega) (by omega)
  have HT3 := fun w => refTimes_any (enc (y * nv u)) (enc A) (y * nv u) A w rfl rfl (by rw [size_enc]; omega) (by rw [size_enc]; omega)
  have HL1 := fun w => refPlus_any (enc (n * Q)) (enc A) (n * Q) A w rfl rfl (by rw [size_enc]; omega) (by rw [size_enc]; omega)
  have HL2 := fun w => refPlus_any (enc (n * Q)) (enc (y * nv u * A)) (n * Q) (y * nv u * A) w rfl rfl (by rw [size_enc]; omega) (by rw [size_enc]; omega)
  obtain ⟨g, hg⟩ : ∃ g, zb (wxX u la ld) = g := ⟨_, rfl⟩
  rw [hg] at HE HV e8
  have HL1' : g = true → ∀ w, Calls Try.prog 11 #[.string (enc (n * Q)), .string (enc A)] w fun e w' => e = .returned (.string (enc (y * nv u * A))) ∧ Below w.heap.size w w' := fun hg => by
    rcases e8 with ⟨_, h⟩ | ⟨h, _⟩
    · rw [h] at HL1; exact HL1
    · rw [hg] at h; cases h
  have HL2' : g = false → ∀ w, Calls Try.prog 11 #[.string (enc (n * Q)), .string (enc (y * nv u * A))] w fun e w' => e = .returned (.string (enc A)) ∧ Below w.heap.size w w' := fun hg => by
    rcases e8 with ⟨h, _⟩ | ⟨_, h⟩
    · rw [hg] at h; cases h
    · rw [h] at HL2; exact HL2
  clear HL1 HL2 e1 e2 e3 e4 e5 e6 e7 e8 hg hnc h0 bn by1 by2 bu hA hQ d1 d2
  obtain ⟨s1, z1⟩ : ∃ s, enc n = s := ⟨_, rfl⟩
  obtain ⟨s2, z2⟩ : ∃ s, enc y = s := ⟨_, rfl⟩
  obtain ⟨SA, z3⟩ : ∃ s, enc A = s := ⟨_, rfl⟩
  obtain ⟨SD, z4⟩ : ∃ s, enc Q = s := ⟨_, rfl⟩
  obtain ⟨B1, z5⟩ : ∃ s, enc (n * Q) = s := ⟨_, rfl⟩
  obtain ⟨B2, z6⟩ : ∃ s, enc (y * nv u) = s := ⟨_, rfl⟩
  obtain ⟨B3, z7⟩ : ∃ s, enc (y * nv u * A) = s := ⟨_, rfl⟩
  rw [z1, z2] at HE
  rw [z1] at HV
  rw [z3] at HPa
  rw [z4] at HPd
  rw [z2, z4] at HO
  rw [z1, z4, z5] at HT1
  rw [z2, z6] at HT2
  rw [z6, z3, z7] at HT3
  rw [z5, z3, z7] at HL1' HL2'
  have HE := Lib.hid HE
  have HPa := Lib.hid HPa
  have HPd := Lib.hid HPd
  have HV := Lib.hid HV
  have HO := Lib.hid HO
  have HT1 := Lib.hid HT1
  have HT2 := Lib.hid HT2
  have HT3 := Lib.hid HT3
  have HL1 := Lib.hid HL1'
  have HL2 := Lib.hid HL2'
  clear z1 z2 z3 z4 z5 z6 z7 HL1' HL2' hu hu' ha ha' hd hd' hva hvd hun su l1 l2
  go_wp2_with fail
  refine (HE.out _ x2.ca).mono ?_; rintro e w3 ⟨rfl, b3⟩
  have x3 := x2.below b3
  obtain ⟨w4, hw4, x4⟩ := by_two (g1 := g) (s1 := s1) (g2 := false) (s2 := s2) x3
  clear HE k0_1 k1_1 k2_1 k3_1 k4_1 k0_2 k1_2 k2_2 k3_2 k4_2
  have k0_4 := x4.c.c0
  have k1_4 := x4.c.c1
  have k2_4 := x4.c.c2
  have k3_4 := x4.c.c3
  have k4_4 := x4.c.c4
  have p0_4 := x4.i1.c0
  have q0_4 := x4.i2.c0
  have p1_4 := x4.i1.c1
  have q1_4 := x4.i2.c1
  obtain ⟨m, hm⟩ : ∃ m, w3.heap.size = m := ⟨_, rfl⟩
  rw [hm] at x4 p0_4 p1_4 q0_4 q1_4
  go_wp2_with fail
  go_region_held3 (fun w' => w'.cell? ⟨w.heap.size, 2, none⟩ = some (.slice a1 n1 c1) ∧ w'.cell? ⟨w.heap.size, 3, none⟩ = some (.slice a2 n2 c2) ∧ BY w w' w.heap.size m g s1 false s2 u wt a1 n1 c1 a2 n2 c2 acc la ld)
    (first | exact by_all x4 | exact by_all x4.drew | (refine by_keep ?_ br; assumption))
    (first
      | (go_at_call 8; (with_reducible refine (HPa.out _ ?_).mono ?_); (· exact by_last (by assumption)); rintro e wr ⟨rfl, br⟩)
      | (go_at_call 8; (with_reducible refine (HPd.out _ ?_).mono ?_); (· exact by_last (by assumption)); rintro e wr ⟨rfl, br⟩))
  all_goals
    have x6 : BY w wr w.heap.size m g s1 false s2 u wt a1 n1 c1 a2 n2 c2 acc la ld := by_fin (by assumption)
    have k0_6 := x6.c.c0
    have k1_6 := x6.c.c1
    have k2_6 := x6.c.c2
    have k3_6 := x6.c.c3
    have k4_6 := x6.c.c4
    have p0_6 := x6.i1.c0
    have q0_6 := x6.i2.c0
    have p1_6 := x6.i1.c1
    have q1_6 := x6.i2.c1
    clear k0_4 k1_4 k2_4 k3_4 k4_4 p0_4 q0_4 p1_4 q1_4
    go_wp2_with fail
    refine (HO.out _).mono ?_; rintro e w7 ⟨rfl, b7⟩
    have x7 := x6.below b7
    clear k0_6 k1_6 k2_6 k3_6 k4_6 p0_6 q0_6 p1_6 q1_6
    have k0_7 := x7.c.c0
    have k1_7 := x7.c.c1
    have k2_7 := x7.c.c2
    have k3_7 := x7.c.c3
    have k4_7 := x7.c.c4
    have p0_7 := x7.i1.c0
    have q0_7 := x7.i2.c0
    have p1_7 := x7.i1.c1
    have q1_7 := x7.i2.c1
    go_wp2_with fail
    refine (HT1.out _).mono ?_; rintro e w8 ⟨rfl, b8⟩
    have x8 := x7.below b8
    clear k0_7 k1_7 k2_7 k3_7 k4_7 p0_7 q0_7 p1_7 q1_7
    have k0_8 := x8.c.c0
    have k1_8 := x8.c.c1
    have k2_8 := x8.c.c2
    have k3_8 := x8.c.c3
    have k4_8 := x8.c.c4
    have p0_8 := x8.i1.c0
    have q0_8 := x8.i2.c0
    have p1_8 := x8.i1.c1
    have q1_8 := x8.i2.c1
    go_wp2_with fail
    refine (HT2.out _).mono ?_; rintro e w9 ⟨rfl, b9⟩
    have x9 := x8.below b9
    clear k0_8 k1_8 k2_8 k3_8 k4_8 p0_8 q0_8 p1_8 q1_8
    have k0_9 := x9.c.c0
    have k1_9 := x9.c.c1
    have k2_9 := x9.c.c2
    have k3_9 := x9.c.c3
    have k4_9 := x9.c.c4
    have p0_9 := x9.i1.c0
    have q0_9 := x9.i2.c0
    have p1_9 := x9.i1.c1
    have q1_9 := x9.i2.c1
    go_wp2_with fail
    refine (HT3.out _).mono ?_; rintro e w10 ⟨rfl, b10⟩
    have x10 := x9.below b10
    clear k0_9 k1_9 k2_9 k3_9 k4_9 p0_9 q0_9 p1_9 q1_9
    have k0_10 := x10.c.c0
    have k1_10 := x10.c.c1
    have k2_10 := x10.c.c2
    have k3_10 := x10.c.c3
    have k4_10 := x10.c.c4
    have p0_10 := x10.i1.c0
    have q0_10 := x10.i2.c0
    have p1_10 := x10.i1.c1
    have q1_10 := x10.i2.c1
    clear HO HT1 HT2 HT3
    cases g
    · have HL := Lib.hid (HL2.out rfl)
      clear HL1 HL2
      go_wp2_with fail
      refine (HL.out _).mono ?_; rintro e w11 ⟨rfl, b11⟩
      have x11 := x10.below b11
      go_wp2_with fail
      refine (awakeW _).mono ?_; rintro e wa ⟨rfl, ba⟩
      go_wp2_with fail
      go_ret
      exact ⟨rfl, (x11.below ba).lo⟩
    · have HL := Lib.hid (HL1.out rfl)
      clear HL1 HL2
      go_wp2_with fail
      refine (HL.out _).mono ?_; rintro e w11 ⟨rfl, b11⟩
      have x11 := x10.below b11
      clear k0_10 k1_10 k2_10 k3_10 k4_10 p0_10 q0_10 p1_10 q1_10
      have k0_11 := x11.c.c0
      have k1_11 := x11.c.c1
      have k2_11 := x11.c.c2
      have k3_11 := x11.c.c3
      have k4_11 := x11.c.c4
      have p0_11 := x11.i1.c0
      have q0_11 := x11.i2.c0
      have p1_11 := x11.i1.c1
      have q1_11 := x11.i2.c1
      go_wp2_with fail
      refine (HV.out _).mono ?_; rintro e w12 ⟨rfl, b12⟩
      have x12 := x11.below b12
      go_wp2_with fail
      refine (awakeW _).mono ?_; rintro e wa ⟨rfl, ba⟩
      go_wp2_with fail
      go_ret
      exact ⟨rfl, (x12.below ba).lo⟩
end Go.Proofs.Ytcjbbneiobnmkaa
