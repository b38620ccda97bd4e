import Derived.Test.YtcjbbneiobnmkaaWlA
/- Plain facts for the laws of layer 36 that are independent of the reference. -/
namespace Go.Proofs.Ytcjbbneiobnmkaa
open Num
set_option linter.unusedVariables false
theorem inv_uniq {m a b c : Nat} (ha : a < m) (hb : b < m) (h1 : a * c % m = 1) (h2 : b * c % m = 1) : a = b := by
  have e1 : a * (b * c) % m = a := by rw [Nat.mul_mod, h2, Nat.mul_one, Nat.mod_mod, Nat.mod_eq_of_lt ha]
  have e2 : b * (a * c) % m = b := by rw [Nat.mul_mod, h1, Nat.mul_one, Nat.mod_mod, Nat.mod_eq_of_lt hb]
  rw [← e1, Nat.mul_left_comm, e2]
theorem zp_nat (m x a : Nat) : zp m x (a : Int) = x ^ a % m := by
  have e : zb (a : Int) = false := decide_eq_false (by omega)
  unfold zp
  rw [e]; rfl
theorem zp_lt {m : Nat} (hm : 2 ≤ m) (x : Nat) (z : Int) : zp m x z < m := Nat.mod_lt _ (by omega)
theorem zp_pow {m o x : Nat} (hm : 2 ≤ m) (hx : elN m o x = true) (k : Nat) (z : Int) : zp m (x ^ k % m) z = zp m x (k * z) := by
  have P : ∀ n : Nat, zp m (x ^ k % m) (n : Int) = zp m x ((k : Int) * n) := fun n => by
    rw [zp_nat, ← Int.natCast_mul, zp_nat, Nat.pow_mul]
    exact (Nat.pow_mod _ _ _).symm
  have hu := el_unit hx
  have hy := el_unit (el_pow hm hx k)
  rcases Int.eq_nat_or_neg z with ⟨n, rfl | rfl⟩
  · exact P n
  · refine inv_uniq (zp_lt hm _ _) (zp_lt hm _ _) (zp_neg hm hy n) ?_
    rw [P n, Int.mul_neg]
    exact zp_neg hm hu _
theorem upP_zp {M O x acc : ByteArray} {X Y : Int} (hx : hasB M O x = true) (hy : hasB M O acc = true) (hX : ZOk X) (hY : ZOk Y) :
    upP M O x acc X Y = enc (zp (nv M) (nv x) X * zp (nv M) (nv acc) Y % nv M) := by
  obtain ⟨g0, x2, x3⟩ := hasB_ok hx
  obtain ⟨_, y2, y3⟩ := hasB_ok hy
  obtain ⟨hM, _, hm2, _⟩ := gE_ok g0
  rw [← (mul_exp hx hy hX hY).2, gpS_one hx (ivB_z hX), gpS_one hy (ivB_z hY), (gm_ok2 g0 (el_pow hm2 (el_sb hm2 x3 _) _) (el_pow hm2 (el_sb hm2 y3 _) _)).2]
  unfold zp zs
  rw [nv_enc, nv_enc]
theorem hasB_el {M O : ByteArray} {y : Nat} (hg : gE M O = 0) (he : elN (nv M) (nv O) y = true) : hasB M O (enc y) = true := by
  obtain ⟨hM, _, hm2, _⟩ := gE_ok hg
  have ny : IsN (enc y) y := IsN.mk' (Nat.le_trans (blen_mono (Nat.le_of_lt (el_lt he))) hM.le)
  unfold hasB
  rw [hg, ny.valid, ny.nv, he]; rfl
theorem ivB_pos {a : ByteArray} (h : validB a = true) : ivB (false, a) = true := by unfold ivB; simp [h]
theorem raS_enc {M O : ByteArray} : ∀ (l : List ByteArray) (x : ByteArray), hasB M O x = true → (∀ n ∈ l, validB n = true) → raS M O x l = enc (nv x ^ pdL (l.map nv) % nv M) ∧ hasB M O (raS M O x l) = true
  | [], x, hx, _ => by
    obtain ⟨g0, x2, x3⟩ := hasB_ok hx
    refine ⟨?_, hx⟩
    show x = enc (nv x ^ 1 % nv M)
    rw [Nat.pow_one, Nat.mod_eq_of_lt (el_lt x3)]
    exact (isN_of_valid x2).eq
  | a :: r, x, hx, hl => by
    obtain ⟨g0, x2, x3⟩ := hasB_ok hx
    obtain ⟨hM, _, hm2, _⟩ := gE_ok g0
    have e1 := gpS_one hx (ivB_pos (hl a (by simp)))
    have hx' := hasB_el g0 (el_pow hm2 x3 (nv a))
    obtain ⟨i1, i2⟩ := raS_enc r _ hx' fun n hn => hl n (List.mem_cons_of_mem _ hn)
    have e2 : raS M O x (a :: r) = raS M O (enc (nv x ^ nv a % nv M)) r := by
      show raS M O (gpS M O [x] [(false, a)]) r = _
      rw [e1]; rfl
    rw [e2]
    refine ⟨?_, i2⟩
    rw [i1, nv_enc, ← Nat.pow_mod, ← Nat.pow_mul]
    rfl
theorem raS_append (M O x : ByteArray) (k l : List ByteArray) : raS M O (raS M O x k) l = raS M O x (k ++ l) := by unfold raS; rw [List.foldl_append]
theorem adS_raS {M O : ByteArray} : ∀ (l : List ByteArray) (x : ByteArray), (∀ n ∈ l, validB n = true) → adS M O x l = raS M O x l
  | [], _, _ => rfl
  | a :: r, x, hl => by
    have h1 : stA M O x a = gpS M O [x] [(false, a)] := by unfold stA cl; rw [if_pos (hl a (by simp))]
    show adS M O (stA M O x a) r = raS M O (gpS M O [x] [(false, a)]) r
    rw [h1]
    exact adS_raS r _ fun n hn => hl n (List.mem_cons_of_mem _ hn)
theorem wrB_no {x : ByteArray} (h : wrB x = false) : x.toList.isEmpty = false ∧ validB x = true := by
  unfold wrB at h
  rw [Bool.or_eq_false_iff, Bool.not_eq_false'] at h
  exact h
theorem any_wr {l : List ByteArray} (h : l.any wrB = false) : ∀ n ∈ l, wrB n = false := fun n hn => by
  rw [List.any_eq_false] at h
  simpa using h n hn
theorem rd_ok {M O : ByteArray} {le lh : List ByteArray} (hg : gE M O = 0) (h1 : ∀ x ∈ le, hasB M O x = true) (h2 : ∀ x ∈ lh, wrB x = false) : rdE M O le lh = 0 := by
  obtain ⟨hM, hO, _, _⟩ := gE_ok hg
  have hv : (M :: O :: (le ++ lh)).all validB = true := by
    rw [List.all_eq_true]
    intro x hx
    simp only [List.mem_cons, List.mem_append] at hx
    rcases hx with rfl | rfl | hx | hx
    · exact hM.valid
    · exact hO.valid
    · exact (hasB_ok (h1 x hx)).2.1
    · exact (wrB_no (h2 x hx)).2
  rw [rdE_last hv hg (List.all_eq_true.2 h1)]
  unfold nzE
  rw [if_pos]
  rw [List.all_eq_true]
  intro x hx
  rw [(wrB_no (h2 x hx)).1]; rfl
theorem posN_wr {l : List ByteArray} (h : ∀ n ∈ l, wrB n = false) : PosN l := fun x hx => pos_of (wrB_no (h x hx)).2 (by rw [(wrB_no (h x hx)).1]; rfl)
/-- the heart: two powers of one element, raised to exponents -/
theorem up_core {M O x : ByteArray} {a b c : Nat} {X Y : Int} (hx : hasB M O x = true) (hX : ZOk X) (hY : ZOk Y) (h : (a : Int) * X + b * Y = c) :
    upP M O (enc (nv x ^ a % nv M)) (enc (nv x ^ b % nv M)) X Y = enc (nv x ^ c % nv M) := by
  obtain ⟨g0, x2, x3⟩ := hasB_ok hx
  obtain ⟨hM, _, hm2, _⟩ := gE_ok g0
  rw [upP_zp (hasB_el g0 (el_pow hm2 x3 a)) (hasB_el g0 (el_pow hm2 x3 b)) hX hY, nv_enc, nv_enc, zp_pow hm2 x3, zp_pow hm2 x3, ← zp_add (by omega) (el_unit x3), h, zp_nat]
theorem valid_all {l : List ByteArray} (h : ∀ n ∈ l, wrB n = false) : ∀ n ∈ l, validB n = true := fun n hn => (wrB_no (h n hn)).2
theorem upE_ready {M O x acc u : ByteArray} {la ld : List ByteArray} (hx : hasB M O x = true) (hc : hasB M O acc = true) (hu : wrB u = false) (ha : ∀ n ∈ la, wrB n = false) (hd : ∀ n ∈ ld, wrB n = false) :
    upE M O x acc u la ld = wxE u la ld := by
  have h := rd_ok (M := M) (O := O) (le := [x, acc]) (lh := u :: (la ++ ld)) (hasB_ok hx).1 (by
    intro y hy
    simp only [List.mem_cons, List.not_mem_nil, or_false] at hy
    rcases hy with rfl | rfl <;> assumption) (by
    intro y hy
    simp only [List.mem_cons, List.mem_append] at hy
    rcases hy with rfl | hy | hy
    · exact hu
    · exact ha y hy
    · exact hd y hy)
  unfold upE
  rw [if_pos h]
theorem upS_of {M O x acc u : ByteArray} {la ld : List ByteArray} (h : upE M O x acc u la ld = wxE u la ld) (h0 : wxE u la ld = 0) : upS M O x acc u la ld = upP M O x acc (wxX u la ld) (wxY u la ld) := by
  unfold upS; rw [if_pos (h.trans h0)]
theorem upS_bad {M O x acc u : ByteArray} {la ld : List ByteArray} (h0 : upE M O x acc u la ld ≠ 0) : upS M O x acc u la ld = ⟨#[]⟩ := by
  unfold upS; rw [if_neg h0]
theorem wx_bez {u : ByteArray} {la ld : List ByteArray} (h0 : wxE u la ld = 0) (hd : PosN ld) : wxX u la ld * (pdL (ld.map nv) : Int) + wxY u la ld * nv u * pdL (la.map nv) = pdL (la.map nv) := by
  obtain ⟨h1, h2, h3, h4, h5⟩ := wxE_inv h0
  rw [wxX, wxY, h0, zif_zero, zif_zero]
  exact wt_bez hd.pd h4
theorem pd_one (u : ByteArray) : pdL ([u].map nv) = nv u := by simp [pdL]
/-- WitnessStays -/
theorem stays_plain {M O x u : ByteArray} {la ld : List ByteArray} (hx : hasB M O x = true) (hu : wrB u = false) (ha : ∀ n ∈ la, wrB n = false) (hd : ∀ n ∈ ld, wrB n = false) :
    upE M O (raS M O x ld) (raS M O (raS M O x la) [u]) u la ld = wxE u la ld ∧
    (wxE u la ld = 0 → upS M O (raS M O x ld) (raS M O (raS M O x la) [u]) u la ld = raS M O x la) := by
  have hu1 : ∀ n ∈ [u], wrB n = false := fun n hn => by simp at hn; subst hn; exact hu
  have hw := raS_enc ld x hx (valid_all hd)
  have hA := raS_enc la x hx (valid_all ha)
  have hc := raS_enc [u] _ hA.2 (valid_all hu1)
  have hE := upE_ready (u := u) (la := la) (ld := ld) hw.2 hc.2 hu ha hd
  refine ⟨hE, fun h0 => ?_⟩
  rw [upS_of hE h0, hw.1, hc.1, hA.1, nv_enc, ← Nat.pow_mod, ← Nat.pow_mul, pd_one]
  obtain ⟨zx, zy⟩ := wx_zok h0 (posN_wr hd)
  refine up_core hx zx zy ?_
  have hb := wx_bez h0 (posN_wr hd)
  rw [Int.natCast_mul, Int.mul_comm (pdL (ld.map nv) : Int), Int.mul_comm ((pdL (la.map nv) : Int) * nv u), Int.mul_comm (pdL (la.map nv) : Int), ← Int.mul_assoc]
  exact hb
theorem pd_nil : pdL (([] : List ByteArray).map nv) = 1 := rfl
theorem blen_small {g : ByteArray} (h : validB g = true) : blen (nv g) = g.size := (isN_of_valid h).size.symm
theorem wx_alone {u g : ByteArray} (hu : validB u = true) (hg : validB g = true) (hp : 0 < nv g) (su : u.size ≤ 16) (sg : g.size ≤ 16) : wxE u [] [g] = 0 ∨ wxE u [] [g] = 20 ∨ wxE u [] [g] = 1 := by
  by_cases h1 : inB u [g] = true
  · exact .inr (.inl (wxE_in h1))
  have h2 : ¬ (128 < blen (pdL (([] : List ByteArray).map nv)) ∨ 128 < blen (pdL ([g].map nv))) := by
    rw [pd_nil, pd_one, blen_small hg]
    have : blen 1 = 1 := by decide
    omega
  by_cases h3 : Nat.gcd (nv u) (pdL ([g].map nv)) = 1
  · left
    refine wxE_ok h1 h2 h3 ?_
    rw [pd_one] at h3 ⊢
    have h4 := wt_abs hp h3
    have e : wtX (nv u) (pdL (([] : List ByteArray).map nv)) (nv g) = wtB (nv u) (nv g) := by rw [pd_nil]; unfold wtX; simp
    rw [e]
    have h5 := blen_mono h4
    have h6 : blen (max (nv u) 1) ≤ 16 := by
      have := blen_small hu
      have h7 : blen 1 = 1 := by decide
      rcases Nat.le_total (nv u) 1 with h | h
      · rw [Nat.max_eq_right h]; omega
      · rw [Nat.max_eq_left h]; omega
    omega
  · exact .inr (.inr (wxE_gcd h1 h2 h3))
/-- WitnessAlone -/
theorem alone_plain {M O x u g : ByteArray} {la : List ByteArray} (hx : hasB M O x = true) (hu : wrB u = false) (ha : ∀ n ∈ la, wrB n = false) (hg : wrB g = false) (su : u.size ≤ 16) (sg : g.size ≤ 16) :
    rdE M O [raS M O x [g]] la = 0 ∧ adS M O (raS M O x [g]) la = raS M O (raS M O x [g]) la ∧
    raS M O (raS M O (raS M O x [g]) la) [u] = raS M O (raS M O (raS M O x [g]) [u]) la ∧
    (upE M O (raS M O (raS M O x [g]) la) (raS M O (raS M O x la) [u]) u [] [g] = 0 ∨ upE M O (raS M O (raS M O x [g]) la) (raS M O (raS M O x la) [u]) u [] [g] = 20 ∨ upE M O (raS M O (raS M O x [g]) la) (raS M O (raS M O x la) [u]) u [] [g] = 1) ∧
    (upE M O (raS M O (raS M O x [g]) la) (raS M O (raS M O x la) [u]) u [] [g] = 0 → upS M O (raS M O (raS M O x [g]) la) (raS M O (raS M O x la) [u]) u [] [g] = raS M O x la) := by
  have hu1 : ∀ n ∈ [u], wrB n = false := fun n hn => by simp at hn; subst hn; exact hu
  have hg1 : ∀ n ∈ [g], wrB n = false := fun n hn => by simp at hn; subst hn; exact hg
  have hG := raS_enc [g] x hx (valid_all hg1)
  have hA := raS_enc la x hx (valid_all ha)
  have hGA := raS_enc la _ hG.2 (valid_all ha)
  have hAU := raS_enc [u] _ hA.2 (valid_all hu1)
  have hgp := (posN_wr hg1 g (by simp)).2
  have hE := upE_ready (u := u) (la := []) (ld := [g]) hGA.2 hAU.2 hu (fun _ h => by cases h) hg1
  refine ⟨rd_ok (hasB_ok hx).1 (fun y hy => by simp at hy; subst hy; exact hG.2) ha, adS_raS la _ (valid_all ha), ?_, ?_, fun h0 => ?_⟩
  · rw [raS_append, raS_append, raS_append, raS_append]
    have hv : ∀ n ∈ [g] ++ (la ++ [u]), validB n = true := fun n hn => by
      rcases List.mem_append.1 hn with h | h
      · exact valid_all hg1 n h
      · rcases List.mem_append.1 h with h | h
        · exact valid_all ha n h
        · exact valid_all hu1 n h
    have hv2 : ∀ n ∈ [g] ++ ([u] ++ la), validB n = true := fun n hn => hv n (by simp at hn ⊢; rcases hn with h | h | h <;> simp [h])
    rw [(raS_enc _ x hx hv).1, (raS_enc _ x hx hv2).1]
    simp only [List.map_append, pdL_append]
    rw [Nat.mul_comm (pdL (la.map nv))]
  · rw [hE]
    exact wx_alone (wrB_no hu).2 (wrB_no hg).2 hgp su sg
  · rw [hE] at h0
    rw [upS_of hE h0, hGA.1, hAU.1, hG.1, hA.1, nv_enc, nv_enc, ← Nat.pow_mod, ← Nat.pow_mod, ← Nat.pow_mul, ← Nat.pow_mul, pd_one, pd_one]
    obtain ⟨zx, zy⟩ := wx_zok h0 (posN_wr hg1)
    refine up_core hx zx zy ?_
    have hb := wx_bez h0 (posN_wr hg1)
    rw [pd_nil, pd_one] at hb
    have e1 : ((nv g * pdL (la.map nv) : Nat) : Int) * wxX u [] [g] = (pdL (la.map nv) : Int) * (wxX u [] [g] * nv g) := by
      rw [Int.natCast_mul, Int.mul_comm (nv g : Int), Int.mul_assoc, Int.mul_comm (nv g : Int)]
    have e2 : ((pdL (la.map nv) * nv u : Nat) : Int) * wxY u [] [g] = (pdL (la.map nv) : Int) * (wxY u [] [g] * nv u * ((1 : Nat) : Int)) := by
      rw [Int.natCast_mul, Int.mul_assoc, Int.mul_comm (nv u : Int), Int.natCast_one, Int.mul_one]
    rw [e1, e2, ← Int.mul_add, hb, Int.natCast_one, Int.mul_one]
theorem wx_nothing {u : ByteArray} (hu : validB u = true) : wxE u [] [] = 0 ∧ wxX u [] [] = 1 ∧ wxY u [] [] = 0 := by
  have hg : Nat.gcd (nv u) 1 = 1 := Nat.gcd_one_right _
  obtain ⟨e1, e2⟩ := wt_ok (u := nv u) (d := 1) (by omega) hg
  have e3 : wtY (nv u) 1 = 0 := by omega
  rw [e3] at e1
  have e4 : wtB (nv u) 1 = 1 := by simpa using e1
  have e5 : wtX (nv u) (pdL (([] : List ByteArray).map nv)) (pdL (([] : List ByteArray).map nv)) = 1 := by rw [pd_nil]; unfold wtX; rw [e4]; rfl
  have h0 : wxE u [] [] = 0 := by
    refine wxE_ok (by simp [inB]) (by rw [pd_nil]; decide) (by rw [pd_nil]; exact hg) ?_
    rw [e5]; decide
  refine ⟨h0, by rw [wxX, h0, zif_zero, e5], by rw [wxY, h0, zif_zero, pd_nil, e3]; rfl⟩
/-- WitnessNothing -/
theorem nothing_plain {M O x acc u : ByteArray} (hx : hasB M O x = true) (hc : hasB M O acc = true) (hu : wrB u = false) :
    upE M O x acc u [] [] = 0 ∧ upS M O x acc u [] [] = x ∧ rdE M O [x] [] = 0 ∧ adS M O x [] = x := by
  obtain ⟨g0, x2, x3⟩ := hasB_ok hx
  obtain ⟨_, y2, y3⟩ := hasB_ok hc
  obtain ⟨hM, _, hm2, _⟩ := gE_ok g0
  have hE := upE_ready (u := u) (la := []) (ld := []) hx hc hu (fun _ h => by cases h) (fun _ h => by cases h)
  obtain ⟨h0, h1, h2⟩ := wx_nothing (wrB_no hu).2
  refine ⟨hE.trans h0, ?_, rd_ok g0 (fun y hy => by simp at hy; subst hy; exact hx) (fun _ h => by cases h), rfl⟩
  obtain ⟨zx, zy⟩ := wx_zok h0 (fun _ h => by cases h)
  rw [upS_of hE h0]
  rw [h1] at zx ⊢
  rw [h2] at zy ⊢
  rw [upP_zp hx hc zx zy]
  have e1 : zp (nv M) (nv x) 1 = nv x := by
    have := zp_nat (nv M) (nv x) 1
    rw [Nat.pow_one, Nat.mod_eq_of_lt (el_lt x3)] at this
    exact this
  have e2 : zp (nv M) (nv acc) 0 = 1 := by
    have := zp_nat (nv M) (nv acc) 0
    rw [Nat.pow_zero, Nat.mod_eq_of_lt (by omega)] at this
    exact this
  rw [e1, e2, Nat.mul_one, Nat.mod_eq_of_lt (el_lt x3)]
  exact (isN_of_valid x2).eq.symm
end Go.Proofs.Ytcjbbneiobnmkaa

/- The law WitnessNothing. -/
namespace Go.Proofs.Ytcjbbneiobnmkaa
open Go.RowKit Num
set_option maxRecDepth 20000
set_option linter.unusedVariables false
/-- the boxes of a law of layer 36, and the lists -/
structure KX (w0 W : World) (b : Nat) (nm M O Z S : ByteArray) (rv : Value) (U H u wt : ByteArray) (a1 : Option Addr) (n1 c1 : Nat) (a2 : Option Addr) (n2 c2 : Nat) (acc : ByteArray) (la ld : List ByteArray) : Prop where
  k : KB W b nm M O Z S rv U H
  c : CB W (b + 1) u wt a1 n1 c1 a2 n2 c2 acc
  ca : CA W a1 n1 c1 la a2 n2 c2 ld
  lo : Below w0.heap.size w0 W
section
variable {nm M O Z S : ByteArray} {rv : Value} {U H u wt : ByteArray} {a1 : Option Addr} {n1 c1 : Nat} {a2 : Option Addr} {n2 c2 : Nat} {acc : ByteArray} {la ld : List ByteArray} {w0 W W' : World} {b : Nat}
theorem KX.below (h : KX w0 W b nm M O Z S rv U H u wt a1 n1 c1 a2 n2 c2 acc la ld) (hb : Below W.heap.size W W') : KX w0 W' b nm M O Z S rv U H u wt a1 n1 c1 a2 n2 c2 acc la ld :=
  ⟨h.k.below hb h.k.lt, h.c.below hb h.c.lt, h.ca.below hb (Nat.le_refl _), h.lo.trans (hb.mono h.lo.size)⟩
theorem KX.alloc (h : KX w0 W b nm M O Z S rv U H u wt a1 n1 c1 a2 n2 c2 acc la ld) (o : Obj) : KX w0 (W.alloc o) b nm M O Z S rv U H u wt a1 n1 c1 a2 n2 c2 acc la ld := h.below ((Below.refl _ W).alloc (Nat.le_refl _) o)
theorem KX.drew (h : KX w0 W b nm M O Z S rv U H u wt a1 n1 c1 a2 n2 c2 acc la ld) : KX w0 W.drew b nm M O Z S rv U H u wt a1 n1 c1 a2 n2 c2 acc la ld := h.below (Below.refl _ W).drew
end
theorem kx_new (nm M O Z S : ByteArray) (rv : Value) (U H u wt : ByteArray) (a1 : Option Addr) (n1 c1 : Nat) (a2 : Option Addr) (n2 c2 : Nat) (acc : ByteArray) (la ld : List ByteArray) (w : World) (hca : CA w a1 n1 c1 la a2 n2 c2 ld) :
    ∃ w1, (w.alloc (.cells #[.string nm, .string M, .string O, .string Z, .string S, rv, .string U, .string H] 30)).alloc (.cells #[.string u, .string wt, .slice a1 n1 c1, .slice a2 n2 c2, .string acc] 25) = w1 ∧
      KX w w1 w.heap.size nm M O Z S rv U H u wt a1 n1 c1 a2 n2 c2 acc la ld := by
  obtain ⟨w1, h1, h2, h3, h4⟩ := box_kc w nm M O Z S rv U H u wt a1 n1 c1 a2 n2 c2 acc
  exact ⟨w1, h1, h2, h3, hca.below h4 (Nat.le_refl _), h4⟩
end Go.Proofs.Ytcjbbneiobnmkaa

/- The law WitnessStays. -/
namespace Go.Proofs.Ytcjbbneiobnmkaa
open Go.RowKit Num
set_option maxRecDepth 20000
set_option linter.unusedVariables false
theorem kx_all {nm M O Z S : ByteArray} {rv : Value} {U H u wt : ByteArray} {a1 : Option Addr} {n1 c1 : Nat} {a2 : Option Addr} {n2 c2 : Nat} {acc : ByteArray} {la ld : List ByteArray} {w0 W : World} {b : Nat} (h : KX w0 W b nm M O Z S rv U H u wt a1 n1 c1 a2 n2 c2 acc la ld) :
    W.cell? ⟨b, 1, none⟩ = some (.string M) ∧ W.cell? ⟨b, 2, none⟩ = some (.string O) ∧ W.cell? ⟨b + 1, 0, none⟩ = some (.string u) ∧ W.cell? ⟨b + 1, 1, none⟩ = some (.string wt) ∧ W.cell? ⟨b + 1, 2, none⟩ = some (.slice a1 n1 c1) ∧ KX w0 W b nm M O Z S rv U H u wt a1 n1 c1 a2 n2 c2 acc la ld :=
  ⟨h.k.c1, h.k.c2, h.c.c0, h.c.c1, h.c.c2, h⟩
theorem kx_keep {nm M O Z S : ByteArray} {rv : Value} {U H u wt : ByteArray} {a1 : Option Addr} {n1 c1 : Nat} {a2 : Option Addr} {n2 c2 : Nat} {acc : ByteArray} {la ld : List ByteArray} {w0 W W' : World} {b : Nat}
    (h : W.cell? ⟨b, 1, none⟩ = some (.string M) ∧ W.cell? ⟨b, 2, none⟩ = some (.string O) ∧ W.cell? ⟨b + 1, 0, none⟩ = some (.string u) ∧ W.cell? ⟨b + 1, 1, none⟩ = some (.string wt) ∧ W.cell? ⟨b + 1, 2, none⟩ = some (.slice a1 n1 c1) ∧ KX w0 W b nm M O Z S rv U H u wt a1 n1 c1 a2 n2 c2 acc la ld) (hb : Below W.heap.size W W') :
    W'.cell? ⟨b, 1, none⟩ = some (.string M) ∧ W'.cell? ⟨b, 2, none⟩ = some (.string O) ∧ W'.cell? ⟨b + 1, 0, none⟩ = some (.string u) ∧ W'.cell? ⟨b + 1, 1, none⟩ = some (.string wt) ∧ W'.cell? ⟨b + 1, 2, none⟩ = some (.slice a1 n1 c1) ∧ KX w0 W' b nm M O Z S rv U H u wt a1 n1 c1 a2 n2 c2 acc la ld :=
  kx_all (h.2.2.2.2.2.below hb)
theorem kx_fin {P1 P2 P3 P4 P5 : Prop} {nm M O Z S : ByteArray} {rv : Value} {U H u wt : ByteArray} {a1 : Option Addr} {n1 c1 : Nat} {a2 : Option Addr} {n2 c2 : Nat} {acc : ByteArray} {la ld : List ByteArray} {w0 W : World} {b : Nat} (h : P1 ∧ P2 ∧ P3 ∧ P4 ∧ P5 ∧ KX w0 W b nm M O Z S rv U H u wt a1 n1 c1 a2 n2 c2 acc la ld) : KX w0 W b nm M O Z S rv U H u wt a1 n1 c1 a2 n2 c2 acc la ld := h.2.2.2.2.2
theorem kx_last {P1 P2 P3 P4 P5 : Prop} {nm M O Z S : ByteArray} {rv : Value} {U H u wt : ByteArray} {a1 : Option Addr} {n1 c1 : Nat} {a2 : Option Addr} {n2 c2 : Nat} {acc : ByteArray} {la ld : List ByteArray} {w0 W : World} {b : Nat} (h : P1 ∧ P2 ∧ P3 ∧ P4 ∧ P5 ∧ KX w0 W b nm M O Z S rv U H u wt a1 n1 c1 a2 n2 c2 acc la ld) : CA W a1 n1 c1 la a2 n2 c2 ld := h.2.2.2.2.2.ca
end Go.Proofs.Ytcjbbneiobnmkaa

/- The law WitnessAlone. -/
namespace Go.Proofs.Ytcjbbneiobnmkaa
open Go.RowKit Num
set_option maxRecDepth 20000
set_option linter.unusedVariables false
end Go.Proofs.Ytcjbbneiobnmkaa
