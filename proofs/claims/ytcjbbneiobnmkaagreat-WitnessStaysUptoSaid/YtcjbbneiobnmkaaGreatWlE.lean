import Derived.Test.YtcjbbneiobnmkaaGreatWlA
/- Plain facts for the laws of layer 36 that are independent of the reference. -/
namespace Go.Proofs.YtcjbbneiobnmkaaGreat
open Num
set_option linter.unusedVariables false
theorem inv_uniq {m a b c : Nat} (ha : a < m) (hb : b < m) (h1 : a * c % m = 1) (h2 : b * c % m = 1) : a = b := by
  have e1 : a * (b * c) % m = a := by rw [Nat.mul_mod, h2, Nat.mul_one, Nat.mod_mod, Nat.mod_eq_of_lt ha]
  have e2 : b * (a * c) % m = b := by rw [Nat.mul_mod, h1, Nat.mul_one, Nat.mod_mod, Nat.mod_eq_of_lt hb]
  rw [← e1, Nat.mul_left_comm, e2]
theorem zp_nat (m x a : Nat) : zp m x (a : Int) = x ^ a % m := by
  have e : zb (a : Int) = false := decide_eq_false (by omega)
  unfold zp
  rw [e]; rfl
theorem zp_lt {m : Nat} (hm : 2 ≤ m) (x : Nat) (z : Int) : zp m x z < m := Nat.mod_lt _ (by omega)
theorem zp_pow {m o x : Nat} (hm : 2 ≤ m) (hx : elN m o x = true) (k : Nat) (z : Int) : zp m (x ^ k % m) z = zp m x (k * z) := by
  have P : ∀ n : Nat, zp m (x ^ k % m) (n : Int) = zp m x ((k : Int) * n) := fun n => by
    rw [zp_nat, ← Int.natCast_mul, zp_nat, Nat.pow_mul]
    exact (Nat.pow_mod _ _ _).symm
  have hu := el_unit hx
  have hy := el_unit (el_pow hm hx k)
  rcases Int.eq_nat_or_neg z with ⟨n, rfl | rfl⟩
  · exact P n
  · refine inv_uniq (zp_lt hm _ _) (zp_lt hm _ _) (zp_neg hm hy n) ?_
    rw [P n, Int.mul_neg]
    exact zp_neg hm hu _
theorem upP_zp {M O x acc : ByteArray} {X Y : Int} (hx : hasB M O x = true) (hy : hasB M O acc = true) (hX : ZOk X) (hY : ZOk Y) :
    upP M O x acc X Y = enc (zp (nv M) (nv x) X * zp (nv M) (nv acc) Y % nv M) := by
  obtain ⟨g0, x2, x3⟩ := hasB_ok hx
  obtain ⟨_, y2, y3⟩ := hasB_ok hy
  obtain ⟨hM, _, hm2, _⟩ := gE_ok g0
  rw [← (mul_exp hx hy hX hY).2, gpS_one hx (ivB_z hX), gpS_one hy (ivB_z hY), (gm_ok2 g0 (el_pow hm2 (el_sb hm2 x3 _) _) (el_pow hm2 (el_sb hm2 y3 _) _)).2]
  unfold zp zs
  rw [nv_enc, nv_enc]
theorem hasB_el {M O : ByteArray} {y : Nat} (hg : gE M O = 0) (he : elN (nv M) (nv O) y = true) : hasB M O (enc y) = true := by
  obtain ⟨hM, _, hm2, _⟩ := gE_ok hg
  have ny : IsN (enc y) y := IsN.mk' (Nat.le_trans (blen_mono (Nat.le_of_lt (el_lt he))) hM.le)
  unfold hasB
  rw [hg, ny.valid, ny.nv, he]; rfl
theorem ivB_pos {a : ByteArray} (h : validB a = true) : ivB (false, a) = true := by unfold ivB; simp [h]
theorem raS_enc {M O : ByteArray} : ∀ (l : List ByteArray) (x : ByteArray), hasB M O x = true → (∀ n ∈ l, validB n = true) → raS M O x l = enc (nv x ^ pdL (l.map nv) % nv M) ∧ hasB M O (raS M O x l) = true
  | [], x, hx, _ => by
    obtain ⟨g0, x2, x3⟩ := hasB_ok hx
    refine ⟨?_, hx⟩
    show x = enc (nv x ^ 1 % nv M)
    rw [Nat.pow_one, Nat.mod_eq_of_lt (el_lt x3)]
    exact (isN_of_valid x2).eq
  | a :: r, x, hx, hl => by
    obtain ⟨g0, x2, x3⟩ := hasB_ok hx
    obtain ⟨hM, _, hm2, _⟩ := gE_ok g0
    have e1 := gpS_one hx (ivB_pos (hl a (by simp)))
    have hx' := hasB_el g0 (el_pow hm2 x3 (nv a))
    obtain ⟨i1, i2⟩ := raS_enc r _ hx' fun n hn => hl n (List.mem_cons_of_mem _ hn)
    have e2 : raS M O x (a :: r) = raS M O (enc (nv x ^ nv a % nv M)) r := by
      show raS M O (gpS M O [x] [(false, a)]) r = _
      rw [e1]; rfl
    rw [e2]
    refine ⟨?_, i2⟩
    rw [i1, nv_enc, ← Nat.pow_mod, ← Nat.pow_mul]
    rfl
theorem raS_append (M O x : ByteArray) (k l : List ByteArray) : raS M O (raS M O x k) l = raS M O x (k ++ l) := by unfold raS; rw [List.foldl_append]
theorem adS_raS {M O : ByteArray} : ∀ (l : List ByteArray) (x : ByteArray), (∀ n ∈ l, validB n = true) → adS M O x l = raS M O x l
  | [], _, _ => rfl
  | a :: r, x, hl => by
    have h1 : stA M O x a = gpS M O [x] [(false, a)] := by unfold stA cl; rw [if_pos (hl a (by simp))]
    show adS M O (stA M O x a) r = raS M O (gpS M O [x] [(false, a)]) r
    rw [h1]
    exact adS_raS r _ fun n hn => hl n (List.mem_cons_of_mem _ hn)
theorem wrB_no {x : ByteArray} (h : wrB x = false) : x.toList.isEmpty = false ∧ validB x = true := by
  unfold wrB at h
  rw [Bool.or_eq_false_iff, Bool.not_eq_false'] at h
  exact h
theorem any_wr {l : List ByteArray} (h : l.any wrB = false) : ∀ n ∈ l, wrB n = false := fun n hn => by
  rw [List.any_eq_false] at h
  simpa using h n hn
theorem rd_ok {M O : ByteArray} {le lh : List ByteArray} (hg : gE M O = 0) (h1 : ∀ x ∈ le, hasB M O x = true) (h2 : ∀ x ∈ lh, wrB x = false) : rdE M O le lh = 0 := by
  obtain ⟨hM, hO, _, _⟩ := gE_ok hg
  have hv : (M :: O :: (le ++ lh)).all validB = true := by
    rw [List.all_eq_true]
    intro x hx
    simp only [List.mem_cons, List.mem_append] at hx
    rcases hx with rfl | rfl | hx | hx
    · exact hM.valid
    · exact hO.valid
    · exact (hasB_ok (h1 x hx)).2.1
    · exact (wrB_no (h2 x hx)).2
  rw [rdE_last hv hg (List.all_eq_true.2 h1)]
  unfold nzE
  rw [if_pos]
  rw [List.all_eq_true]
  intro x hx
  rw [(wrB_no (h2 x hx)).1]; rfl
theorem posN_wr {l : List ByteArray} (h : ∀ n ∈ l, wrB n = false) : PosN l := fun x hx => pos_of (wrB_no (h x hx)).2 (by rw [(wrB_no (h x hx)).1]; rfl)
/-- the heart: two powers of one element, raised to exponents -/
theorem up_core {M O x : ByteArray} {a b c : Nat} {X Y : Int} (hx : hasB M O x = true) (hX : ZOk X) (hY : ZOk Y) (h : (a : Int) * X + b * Y = c) :
    upP M O (enc (nv x ^ a % nv M)) (enc (nv x ^ b % nv M)) X Y = enc (nv x ^ c % nv M) := by
  obtain ⟨g0, x2, x3⟩ := hasB_ok hx
  obtain ⟨hM, _, hm2, _⟩ := gE_ok g0
  rw [upP_zp (hasB_el g0 (el_pow hm2 x3 a)) (hasB_el g0 (el_pow hm2 x3 b)) hX hY, nv_enc, nv_enc, zp_pow hm2 x3, zp_pow hm2 x3, ← zp_add (by omega) (el_unit x3), h, zp_nat]
theorem valid_all {l : List ByteArray} (h : ∀ n ∈ l, wrB n = false) : ∀ n ∈ l, validB n = true := fun n hn => (wrB_no (h n hn)).2
theorem upE_ready {M O x acc u : ByteArray} {la ld : List ByteArray} (hx : hasB M O x = true) (hc : hasB M O acc = true) (hu : wrB u = false) (ha : ∀ n ∈ la, wrB n = false) (hd : ∀ n ∈ ld, wrB n = false) :
    upE M O x acc u la ld = wxE u la ld := by
  have h := rd_ok (M := M) (O := O) (le := [x, acc]) (lh := u :: (la ++ ld)) (hasB_ok hx).1 (by
    intro y hy
    simp only [List.mem_cons, List.not_mem_nil, or_false] at hy
    rcases hy with rfl | rfl <;> assumption) (by
    intro y hy
    simp only [List.mem_cons, List.mem_append] at hy
    rcases hy with rfl | hy | hy
    · exact hu
    · exact ha y hy
    · exact hd y hy)
  unfold upE
  rw [if_pos h]
theorem upS_of {M O x acc u : ByteArray} {la ld : List ByteArray} (h : upE M O x acc u la ld = wxE u la ld) (h0 : wxE u la ld = 0) : upS M O x acc u la ld = upP M O x acc (wxX u la ld) (wxY u la ld) := by
  unfold upS; rw [if_pos (h.trans h0)]
theorem upS_bad {M O x acc u : ByteArray} {la ld : List ByteArray} (h0 : upE M O x acc u la ld ≠ 0) : upS M O x acc u la ld = ⟨#[]⟩ := by
  unfold upS; rw [if_neg h0]
theorem wx_bez {u : ByteArray} {la ld : List ByteArray} (h0 : wxE u la ld = 0) (hd : PosN ld) : wxX u la ld * (pdL (ld.map nv) : Int) + wxY u la ld * nv u * pdL (la.map nv) = pdL (la.map nv) := by
  obtain ⟨h1, h2, h3, h4, h5⟩ := wxE_inv h0
  rw [wxX, wxY, h0, zif_zero, zif_zero]
  exact wt_bez hd.pd h4
theorem pd_one (u : ByteArray) : pdL ([u].map nv) = nv u := by simp [pdL]
/-- WitnessStays -/
theorem stays_plain {M O x u : ByteArray} {la ld : List ByteArray} (hx : hasB M O x = true) (hu : wrB u = false) (ha : ∀ n ∈ la, wrB n = false) (hd : ∀ n ∈ ld, wrB n = false) :
    upE M O (raS M O x ld) (raS M O (raS M O x la) [u]) u la ld = wxE u la ld ∧
    (wxE u la ld = 0 → upS M O (raS M O x ld) (raS M O (raS M O x la) [u]) u la ld = raS M O x la) := by
  have hu1 : ∀ n ∈ [u], wrB n = false := fun n hn => by simp at hn; subst hn; exact hu
  have hw := raS_enc ld x hx (valid_all hd)
  have hA := raS_enc la x hx (valid_all ha)
  have hc := raS_enc [u] _ hA.2 (valid_all hu1)
  have hE := upE_ready (u := u) (la := la) (ld := ld) hw.2 hc.2 hu ha hd
  refine ⟨hE, fun h0 => ?_⟩
  rw [upS_of hE h0, hw.1, hc.1, hA.1, nv_enc, ← Nat.pow_mod, ← Nat.pow_mul, pd_one]
  obtain ⟨zx, zy⟩ := wx_zok h0 (posN_wr hd)
  refine up_core hx zx zy ?_
  have hb := wx_bez h0 (posN_wr hd)
  rw [Int.natCast_mul, Int.mul_comm (pdL (ld.map nv) : Int), Int.mul_comm ((pdL (la.map nv) : Int) * nv u), Int.mul_comm (pdL (la.map nv) : Int), ← Int.mul_assoc]
  exact hb
theorem pd_nil : pdL (([] : List ByteArray).map nv) = 1 := rfl
theorem blen_small {g : ByteArray} (h : validB g = true) : blen (nv g) = g.size := (isN_of_valid h).size.symm
theorem wx_alone {u g : ByteArray} (hu : validB u = true) (hg : validB g = true) (hp : 0 < nv g) (su : u.size ≤ 16) (sg : g.size ≤ 16) : wxE u [] [g] = 0 ∨ wxE u [] [g] = 20 ∨ wxE u [] [g] = 1 := by
  by_cases h1 : inB u [g] = true
  · exact .inr (.inl (wxE_in h1))
  have h2 : ¬ (128 < blen (pdL (([] : List ByteArray).map nv)) ∨ 128 < blen (pdL ([g].map nv))) := by
    rw [pd_nil, pd_one, blen_small hg]
    have : blen 1 = 1 := by decide
    omega
  by_cases h3 : Nat.gcd (nv u) (pdL ([g].map nv)) = 1
  · left
    refine wxE_ok h1 h2 h3 ?_
    rw [pd_one] at h3 ⊢
    have h4 := wt_abs hp h3
    have e : wtX (nv u) (pdL (([] : List ByteArray).map nv)) (nv g) = wtB (nv u) (nv g) := by rw [pd_nil]; unfold wtX; simp
    rw [e]
    have h5 := blen_mono h4
    have h6 : blen (max (nv u) 1) ≤ 16 := by
      have := blen_small hu
      have h7 : blen 1 = 1 := by decide
      rcases Nat.le_total (nv u) 1 with h | h
      · rw [Nat.max_eq_right h]; omega
      · rw [Nat.max_eq_left h]; omega
    omega
  · exact .inr (.inr (wxE_gcd h1 h2 h3))
/-- WitnessAlone -/
theorem alone_plain {M O x u g : ByteArray} {la : List ByteArray} (hx : hasB M O x = true) (hu : wrB u = false) (ha : ∀ n ∈ la, wrB n = false) (hg : wrB g = false) (su : u.size ≤ 16) (sg : g.size ≤ 16) :
    rdE M O [raS M O x [g]] la = 0 ∧ adS M O (raS M O x [g]) la = raS M O (raS M O x [g]) la ∧
    raS M O (raS M O (raS M O x [g]) la) [u] = raS M O (raS M O (raS M O x [g]) [u]) la ∧
    (upE M O (raS M O (raS M O x [g]) la) (raS M O (raS M O x la) [u]) u [] [g] = 0 ∨ upE M O (raS M O (raS M O x [g]) la) (raS M O (raS M O x la) [u]) u [] [g] = 20 ∨ upE M O (raS M O (raS M O x [g]) la) (raS M O (raS M O x la) [u]) u [] [g] = 1) ∧
    (upE M O (raS M O (raS M O x [g]) la) (raS M O (raS M O x la) [u]) u [] [g] = 0 → upS M O (raS M O (raS M O x [g]) la) (raS M O (raS M O x la) [u]) u [] [g] = raS M O x la) := by
  have hu1 : ∀ n ∈ [u], wrB n = false := fun n hn => by simp at hn; subst hn; exact hu
  have hg1 : ∀ n ∈ [g], wrB n = false := fun n hn => by simp at hn; subst hn; exact hg
  have hG := raS_enc [g] x hx (valid_all hg1)
  have hA := raS_enc la x hx (valid_all ha)
  have hGA := raS_enc la _ hG.2 (valid_all ha)
  have hAU := raS_enc [u] _ hA.2 (valid_all hu1)
  have hgp := (posN_wr hg1 g (by simp)).2
  have hE := upE_ready (u := u) (la := []) (ld := [g]) hGA.2 hAU.2 hu (fun _ h => by cases h) hg1
  refine ⟨rd_ok (hasB_ok hx).1 (fun y hy => by simp at hy; subst hy; exact hG.2) ha, adS_raS la _ (valid_all ha), ?_, ?_, fun h0 => ?_⟩
  · rw [raS_append, raS_append, raS_append, raS_append]
    have hv : ∀ n ∈ [g] ++ (la ++ [u]), validB n = true := fun n hn => by
      rcases List.mem_append.1 hn with h | h
      · exact valid_all hg1 n h
      · rcases List.mem_append.1 h with h | h
        · exact valid_all ha n h
        · exact valid_all hu1 n h
    have hv2 : ∀ n ∈ [g] ++ ([u] ++ la), validB n = true := fun n hn => hv n (by simp at hn ⊢; rcases hn with h | h | h <;> simp [h])
    rw [(raS_enc _ x hx hv).1, (raS_enc _ x hx hv2).1]
    simp only [List.map_append, pdL_append]
    rw [Nat.mul_comm (pdL (la.map nv))]
  · rw [hE]
    exact wx_alone (wrB_no hu).2 (wrB_no hg).2 hgp su sg
  · rw [hE] at h0
    rw [upS_of hE h0, hGA.1, hAU.1, hG.1, hA.1, nv_enc, nv_enc, ← Nat.pow_mod, ← Nat.pow_mod, ← Nat.pow_mul, ← Nat.pow_mul, pd_one, pd_one]
    obtain ⟨zx, zy⟩ := wx_zok h0 (posN_wr hg1)
    refine up_core hx zx zy ?_
    have hb := wx_bez h0 (posN_wr hg1)
    rw [pd_nil, pd_one] at hb
    have e1 : ((nv g * pdL (la.map nv) : Nat) : Int) * wxX u [] [g] = (pdL (la.map nv) : Int) * (wxX u [] [g] * nv g) := by
      rw [Int.natCast_mul, Int.mul_comm (nv g : Int), Int.mul_assoc, Int.mul_comm (nv g : Int)]
    have e2 : ((pdL (la.map nv) * nv u : Nat) : Int) * wxY u [] [g] = (pdL (la.map nv) : Int) * (wxY u [] [g] * nv u * ((1 : Nat) : Int)) := by
      rw [Int.natCast_mul, Int.mul_assoc, Int.mul_comm (nv u : Int), Int.natCast_one, Int.mul_one]
    rw [e1, e2, ← Int.mul_add, hb, Int.natCast_one, Int.mul_one]
theorem wx_nothing {u : ByteArray} (hu : validB u = true) : wxE u [] [] = 0 ∧ wxX u [] [] = 1 ∧ wxY u [] [] = 0 := by
  have hg : Nat.gcd (nv u) 1 = 1 := Nat.gcd_one_right _
  obtain ⟨e1, e2⟩ := wt_ok (u := nv u) (d := 1) (by omega) hg
  have e3 : wtY (nv u) 1 = 0 := by omega
  rw [e3] at e1
  have e4 : wtB (nv u) 1 = 1 := by simpa using e1
  have e5 : wtX (nv u) (pdL (([] : List ByteArray).map nv)) (pdL (([] : List ByteArray).map nv)) = 1 := by rw [pd_nil]; unfold wtX; rw [e4]; rfl
  have h0 : wxE u [] [] = 0 := by
    refine wxE_ok (by simp [inB]) (by rw [pd_nil]; decide) (by rw [pd_nil]; exact hg) ?_
    rw [e5]; decide
  refine ⟨h0, by rw [wxX, h0, zif_zero, e5], by rw [wxY, h0, zif_zero, pd_nil, e3]; rfl⟩
/-- WitnessNothing -/
theorem nothing_plain {M O x acc u : ByteArray} (hx : hasB M O x = true) (hc : hasB M O acc = true) (hu : wrB u = false) :
    upE M O x acc u [] [] = 0 ∧ upS M O x acc u [] [] = x ∧ rdE M O [x] [] = 0 ∧ adS M O x [] = x := by
  obtain ⟨g0, x2, x3⟩ := hasB_ok hx
  obtain ⟨_, y2, y3⟩ := hasB_ok hc
  obtain ⟨hM, _, hm2, _⟩ := gE_ok g0
  have hE := upE_ready (u := u) (la := []) (ld := []) hx hc hu (fun _ h => by cases h) (fun _ h => by cases h)
  obtain ⟨h0, h1, h2⟩ := wx_nothing (wrB_no hu).2
  refine ⟨hE.trans h0, ?_, rd_ok g0 (fun y hy => by simp at hy; subst hy; exact hx) (fun _ h => by cases h), rfl⟩
  obtain ⟨zx, zy⟩ := wx_zok h0 (fun _ h => by cases h)
  rw [upS_of hE h0]
  rw [h1] at zx ⊢
  rw [h2] at zy ⊢
  rw [upP_zp hx hc zx zy]
  have e1 : zp (nv M) (nv x) 1 = nv x := by
    have := zp_nat (nv M) (nv x) 1
    rw [Nat.pow_one, Nat.mod_eq_of_lt (el_lt x3)] at this
    exact this
  have e2 : zp (nv M) (nv acc) 0 = 1 := by
    have := zp_nat (nv M) (nv acc) 0
    rw [Nat.pow_zero, Nat.mod_eq_of_lt (by omega)] at this
    exact this
  rw [e1, e2, Nat.mul_one, Nat.mod_eq_of_lt (el_lt x3)]
  exact (isN_of_valid x2).eq.symm
end Go.Proofs.YtcjbbneiobnmkaaGreat

/- The law WitnessNothing. -/
namespace Go.Proofs.YtcjbbneiobnmkaaGreat
open Go.RowKit Num
set_option maxRecDepth 20000
set_option linter.unusedVariables false
/-- the boxes of a law of layer 36, and the lists -/
structure KX (w0 W : World) (b : Nat) (nm M O Z S : ByteArray) (rv : Value) (U H u wt : ByteArray) (a1 : Option Addr) (n1 c1 : Nat) (a2 : Option Addr) (n2 c2 : Nat) (acc : ByteArray) (la ld : List ByteArray) : Prop where
  k : KB W b nm M O Z S rv U H
  c : CB W (b + 1) u wt a1 n1 c1 a2 n2 c2 acc
  ca : CA W a1 n1 c1 la a2 n2 c2 ld
  lo : Below w0.heap.size w0 W
section
variable {nm M O Z S : ByteArray} {rv : Value} {U H u wt : ByteArray} {a1 : Option Addr} {n1 c1 : Nat} {a2 : Option Addr} {n2 c2 : Nat} {acc : ByteArray} {la ld : List ByteArray} {w0 W W' : World} {b : Nat}
theorem KX.below (h : KX w0 W b nm M O Z S rv U H u wt a1 n1 c1 a2 n2 c2 acc la ld) (hb : Below W.heap.size W W') : KX w0 W' b nm M O Z S rv U H u wt a1 n1 c1 a2 n2 c2 acc la ld :=
  ⟨h.k.below hb h.k.lt, h.c.below hb h.c.lt, h.ca.below hb (Nat.le_refl _), h.lo.trans (hb.mono h.lo.size)⟩
theorem KX.alloc (h : KX w0 W b nm M O Z S rv U H u wt a1 n1 c1 a2 n2 c2 acc la ld) (o : Obj) : KX w0 (W.alloc o) b nm M O Z S rv U H u wt a1 n1 c1 a2 n2 c2 acc la ld := h.below ((Below.refl _ W).alloc (Nat.le_refl _) o)
theorem KX.drew (h : KX w0 W b nm M O Z S rv U H u wt a1 n1 c1 a2 n2 c2 acc la ld) : KX w0 W.drew b nm M O Z S rv U H u wt a1 n1 c1 a2 n2 c2 acc la ld := h.below (Below.refl _ W).drew
end
theorem kx_new (nm M O Z S : ByteArray) (rv : Value) (U H u wt : ByteArray) (a1 : Option Addr) (n1 c1 : Nat) (a2 : Option Addr) (n2 c2 : Nat) (acc : ByteArray) (la ld : List ByteArray) (w : World) (hca : CA w a1 n1 c1 la a2 n2 c2 ld) :
    ∃ w1, (w.alloc (.cells #[.string nm, .string M, .string O, .string Z, .string S, rv, .string U, .string H] 63)).alloc (.cells #[.string u, .string wt, .slice a1 n1 c1, .slice a2 n2 c2, .string acc] 60) = w1 ∧
      KX w w1 w.heap.size nm M O Z S rv U H u wt a1 n1 c1 a2 n2 c2 acc la ld := by
  obtain ⟨w1, h1, h2, h3, h4⟩ := box_kc w nm M O Z S rv U H u wt a1 n1 c1 a2 n2 c2 acc
  exact ⟨w1, h1, h2, h3, hca.below h4 (Nat.le_refl _), h4⟩
set_option maxHeartbeats 8000000 in
theorem wnothing_walk (nm M O Z S : ByteArray) (rv : Value) (U H u wt : ByteArray) (a1 : Option Addr) (n1 c1 : Nat) (a2 : Option Addr) (n2 c2 : Nat) (acc : ByteArray) (la ld : List ByteArray) (w : World) (hsz : ∀ x ∈ ([M, O, u, wt, acc] ++ la) ++ ld, x.size ≤ maxLen) (hca : CA w a1 n1 c1 la a2 n2 c2 ld) :
    Calls Tryz.prog 13 #[.agg #[.string nm, .string M, .string O, .string Z, .string S, rv, .string U, .string H], .agg #[.string u, .string wt, .slice a1 n1 c1, .slice a2 n2 c2, .string acc]] w fun e w' => e = .returned (.bool true) ∧ Below w.heap.size w w' := by
  obtain ⟨w0, hw0, x0⟩ := kx_new nm M O Z S rv U H u wt a1 n1 c1 a2 n2 c2 acc la ld w hca
  have HS := Lib.hid (fun w h => small_ca nm M O Z S rv U H u wt a1 n1 c1 a2 n2 c2 acc la ld hsz w h)
  have j0_0 := x0.k.c0
  have j1_0 := x0.k.c1
  have j2_0 := x0.k.c2
  have j3_0 := x0.k.c3
  have j4_0 := x0.k.c4
  have j5_0 := x0.k.c5
  have j6_0 := x0.k.c6
  have j7_0 := x0.k.c7
  have k0_0 := x0.c.c0
  have k1_0 := x0.c.c1
  have k2_0 := x0.c.c2
  have k3_0 := x0.c.c3
  have k4_0 := x0.c.c4
  clear hca
  cases hs : smB M O u wt acc la ld
  · rw [hs] at HS
    clear hs hsz
    go_enter Tryz.func13, Tryz.ntmps13
    go_wp2_with fail
    refine (HS.out _ x0.ca).mono ?_; rintro e w1 ⟨rfl, b1⟩
    have x1 := x0.below b1
    go_wp2_with fail
    refine (awakeW _).mono ?_; rintro e wa ⟨rfl, ba⟩
    go_wp2_with fail
    go_ret
    exact ⟨rfl, (x1.below ba).lo⟩
  obtain ⟨l1, l2, h64, h16⟩ := smB_ok hs
  rw [hs] at HS
  clear hs hsz
  go_enter Tryz.func13, Tryz.ntmps13
  go_wp2_with fail
  refine (HS.out _ x0.ca).mono ?_; rintro e w1 ⟨rfl, b1⟩
  have x1 := x0.below b1
  clear j0_0 j1_0 j2_0 j3_0 j4_0 j5_0 j6_0 j7_0 k0_0 k1_0 k2_0 k3_0 k4_0
  have j0_1 := x1.k.c0
  have j1_1 := x1.k.c1
  have j2_1 := x1.k.c2
  have j3_1 := x1.k.c3
  have j4_1 := x1.k.c4
  have j5_1 := x1.k.c5
  have j6_1 := x1.k.c6
  have j7_1 := x1.k.c7
  have k0_1 := x1.c.c0
  have k1_1 := x1.c.c1
  have k2_1 := x1.c.c2
  have k3_1 := x1.c.c3
  have k4_1 := x1.c.c4
  clear HS
  go_wp2_with fail
  refine (r13Has_any M O wt _ h64).mono ?_; rintro e w2 ⟨rfl, b2⟩
  have x2 := x1.below b2
  clear j0_1 j1_1 j2_1 j3_1 j4_1 j5_1 j6_1 j7_1 k0_1 k1_1 k2_1 k3_1 k4_1
  have j0_2 := x2.k.c0
  have j1_2 := x2.k.c1
  have j2_2 := x2.k.c2
  have j3_2 := x2.k.c3
  have j4_2 := x2.k.c4
  have j5_2 := x2.k.c5
  have j6_2 := x2.k.c6
  have j7_2 := x2.k.c7
  have k0_2 := x2.c.c0
  have k1_2 := x2.c.c1
  have k2_2 := x2.c.c2
  have k3_2 := x2.c.c3
  have k4_2 := x2.c.c4
  cases hx : hasB M O wt
  · clear hx
    go_wp2_with fail
    refine (awakeW _).mono ?_; rintro e wa ⟨rfl, ba⟩
    go_wp2_with fail
    go_ret
    exact ⟨rfl, (x2.below ba).lo⟩
  go_wp2_with fail
  refine (r13Has_any M O acc _ h64).mono ?_; rintro e w3 ⟨rfl, b3⟩
  have x3 := x2.below b3
  clear j0_2 j1_2 j2_2 j3_2 j4_2 j5_2 j6_2 j7_2 k0_2 k1_2 k2_2 k3_2 k4_2
  have j0_3 := x3.k.c0
  have j1_3 := x3.k.c1
  have j2_3 := x3.k.c2
  have j3_3 := x3.k.c3
  have j4_3 := x3.k.c4
  have j5_3 := x3.k.c5
  have j6_3 := x3.k.c6
  have j7_3 := x3.k.c7
  have k0_3 := x3.c.c0
  have k1_3 := x3.c.c1
  have k2_3 := x3.c.c2
  have k3_3 := x3.c.c3
  have k4_3 := x3.c.c4
  cases hc : hasB M O acc
  · clear hc
    go_wp2_with fail
    refine (awakeW _).mono ?_; rintro e wa ⟨rfl, ba⟩
    go_wp2_with fail
    go_ret
    exact ⟨rfl, (x3.below ba).lo⟩
  have b4 := (Below.refl _ w3).alloc (Nat.le_refl _) (.cells #[.string u] 22)
  have hN4 := ns_one w3 u
  obtain ⟨w4, hw4⟩ : ∃ w', w3.alloc (.cells #[.string u] 22) = w' := ⟨_, rfl⟩
  rw [hw4] at b4 hN4
  have x4 := x3.below b4
  have j0_4 := x4.k.c0
  have j1_4 := x4.k.c1
  have j2_4 := x4.k.c2
  have j3_4 := x4.k.c3
  have j4_4 := x4.k.c4
  have j5_4 := x4.k.c5
  have j6_4 := x4.k.c6
  have j7_4 := x4.k.c7
  have k0_4 := x4.c.c0
  have k1_4 := x4.c.c1
  have k2_4 := x4.c.c2
  have k3_4 := x4.c.c3
  have k4_4 := x4.c.c4
  go_wp2_with fail
  refine (wrong_any _ _ 1 [u] _ hN4 rfl (by decide)).mono ?_; rintro e w4b ⟨rfl, rfl⟩
  cases hu : [u].any wrB
  rotate_left
  · clear hu
    go_wp2_with fail
    refine (awakeW _).mono ?_; rintro e wa ⟨rfl, ba⟩
    go_wp2_with fail
    go_ret
    exact ⟨rfl, (x4.below ba).lo⟩
  have hu' : wrB u = false := any_wr hu _ (by simp)
  obtain ⟨p1, p2, p3, p4⟩ := nothing_plain hx hc hu'
  have HU := fun w => update_any nm M O Z S rv U H wt u none none 0 0 0 0 [] [] acc w (fun k hk => by simp at hk) (fun k hk => by simp at hk) rfl rfl (by omega) (by omega)
  rw [p1, p2] at HU
  have HA := fun w => added_any nm M O Z S rv U H wt none 0 0 [] w (fun k hk => by simp at hk) rfl (by decide)
  rw [p3, p4] at HA
  have HU := Lib.hid HU
  have HA := Lib.hid HA
  clear p1 p2 p3 p4 hx hc hu hu' h16 l1 l2
  go_wp2_with fail
  refine (HU.out _).mono ?_; rintro e w5 ⟨rfl, b5⟩
  have x5 := x4.below b5
  clear j0_3 j1_3 j2_3 j3_3 j4_3 j5_3 j6_3 j7_3 k0_3 k1_3 k2_3 k3_3 k4_3 j0_4 j1_4 j2_4 j3_4 j4_4 j5_4 j6_4 j7_4 k0_4 k1_4 k2_4 k3_4 k4_4
  have j0_5 := x5.k.c0
  have j1_5 := x5.k.c1
  have j2_5 := x5.k.c2
  have j3_5 := x5.k.c3
  have j4_5 := x5.k.c4
  have j5_5 := x5.k.c5
  have j6_5 := x5.k.c6
  have j7_5 := x5.k.c7
  have k0_5 := x5.c.c0
  have k1_5 := x5.c.c1
  have k2_5 := x5.c.c2
  have k3_5 := x5.c.c3
  have k4_5 := x5.c.c4
  go_wp2_with fail
  refine (HA.out _).mono ?_; rintro e w6 ⟨rfl, b6⟩
  have x6 := x5.below b6
  clear j0_5 j1_5 j2_5 j3_5 j4_5 j5_5 j6_5 j7_5 k0_5 k1_5 k2_5 k3_5 k4_5
  have j0_6 := x6.k.c0
  have j1_6 := x6.k.c1
  have j2_6 := x6.k.c2
  have j3_6 := x6.k.c3
  have j4_6 := x6.k.c4
  have j5_6 := x6.k.c5
  have j6_6 := x6.k.c6
  have j7_6 := x6.k.c7
  have k0_6 := x6.c.c0
  have k1_6 := x6.c.c1
  have k2_6 := x6.c.c2
  have k3_6 := x6.c.c3
  have k4_6 := x6.c.c4
  go_wp2_with fail
  refine (awakeW _).mono ?_; rintro e wa ⟨rfl, ba⟩
  go_wp2_with fail
  go_ret
  exact ⟨rfl, (x6.below ba).lo⟩
end Go.Proofs.YtcjbbneiobnmkaaGreat

/- The law WitnessStays. -/
namespace Go.Proofs.YtcjbbneiobnmkaaGreat
open Go.RowKit Num
set_option maxRecDepth 20000
set_option linter.unusedVariables false
theorem kx_all {nm M O Z S : ByteArray} {rv : Value} {U H u wt : ByteArray} {a1 : Option Addr} {n1 c1 : Nat} {a2 : Option Addr} {n2 c2 : Nat} {acc : ByteArray} {la ld : List ByteArray} {w0 W : World} {b : Nat} (h : KX w0 W b nm M O Z S rv U H u wt a1 n1 c1 a2 n2 c2 acc la ld) :
    W.cell? ⟨b, 1, none⟩ = some (.string M) ∧ W.cell? ⟨b, 2, none⟩ = some (.string O) ∧ W.cell? ⟨b + 1, 0, none⟩ = some (.string u) ∧ W.cell? ⟨b + 1, 1, none⟩ = some (.string wt) ∧ W.cell? ⟨b + 1, 2, none⟩ = some (.slice a1 n1 c1) ∧ KX w0 W b nm M O Z S rv U H u wt a1 n1 c1 a2 n2 c2 acc la ld :=
  ⟨h.k.c1, h.k.c2, h.c.c0, h.c.c1, h.c.c2, h⟩
theorem kx_keep {nm M O Z S : ByteArray} {rv : Value} {U H u wt : ByteArray} {a1 : Option Addr} {n1 c1 : Nat} {a2 : Option Addr} {n2 c2 : Nat} {acc : ByteArray} {la ld : List ByteArray} {w0 W W' : World} {b : Nat}
    (h : W.cell? ⟨b, 1, none⟩ = some (.string M) ∧ W.cell? ⟨b, 2, none⟩ = some (.string O) ∧ W.cell? ⟨b + 1, 0, none⟩ = some (.string u) ∧ W.cell? ⟨b + 1, 1, none⟩ = some (.string wt) ∧ W.cell? ⟨b + 1, 2, none⟩ = some (.slice a1 n1 c1) ∧ KX w0 W b nm M O Z S rv U H u wt a1 n1 c1 a2 n2 c2 acc la ld) (hb : Below W.heap.size W W') :
    W'.cell? ⟨b, 1, none⟩ = some (.string M) ∧ W'.cell? ⟨b, 2, none⟩ = some (.string O) ∧ W'.cell? ⟨b + 1, 0, none⟩ = some (.string u) ∧ W'.cell? ⟨b + 1, 1, none⟩ = some (.string wt) ∧ W'.cell? ⟨b + 1, 2, none⟩ = some (.slice a1 n1 c1) ∧ KX w0 W' b nm M O Z S rv U H u wt a1 n1 c1 a2 n2 c2 acc la ld :=
  kx_all (h.2.2.2.2.2.below hb)
theorem kx_fin {P1 P2 P3 P4 P5 : Prop} {nm M O Z S : ByteArray} {rv : Value} {U H u wt : ByteArray} {a1 : Option Addr} {n1 c1 : Nat} {a2 : Option Addr} {n2 c2 : Nat} {acc : ByteArray} {la ld : List ByteArray} {w0 W : World} {b : Nat} (h : P1 ∧ P2 ∧ P3 ∧ P4 ∧ P5 ∧ KX w0 W b nm M O Z S rv U H u wt a1 n1 c1 a2 n2 c2 acc la ld) : KX w0 W b nm M O Z S rv U H u wt a1 n1 c1 a2 n2 c2 acc la ld := h.2.2.2.2.2
theorem kx_last {P1 P2 P3 P4 P5 : Prop} {nm M O Z S : ByteArray} {rv : Value} {U H u wt : ByteArray} {a1 : Option Addr} {n1 c1 : Nat} {a2 : Option Addr} {n2 c2 : Nat} {acc : ByteArray} {la ld : List ByteArray} {w0 W : World} {b : Nat} (h : P1 ∧ P2 ∧ P3 ∧ P4 ∧ P5 ∧ KX w0 W b nm M O Z S rv U H u wt a1 n1 c1 a2 n2 c2 acc la ld) : CA W a1 n1 c1 la a2 n2 c2 ld := h.2.2.2.2.2.ca
set_option maxHeartbeats 8000000 in
theorem wstays_walk (nm M O Z S : ByteArray) (rv : Value) (U H u wt : ByteArray) (a1 : Option Addr) (n1 c1 : Nat) (a2 : Option Addr) (n2 c2 : Nat) (acc : ByteArray) (la ld : List ByteArray) (w : World) (hsz : ∀ x ∈ ([M, O, u, wt, acc] ++ la) ++ ld, x.size ≤ maxLen) (hca : CA w a1 n1 c1 la a2 n2 c2 ld) :
    Calls Tryz.prog 10 #[.agg #[.string nm, .string M, .string O, .string Z, .string S, rv, .string U, .string H], .agg #[.string u, .string wt, .slice a1 n1 c1, .slice a2 n2 c2, .string acc]] w fun e w' => e = .returned (.bool true) ∧ Below w.heap.size w w' := by
  obtain ⟨w0, hw0, x0⟩ := kx_new nm M O Z S rv U H u wt a1 n1 c1 a2 n2 c2 acc la ld w hca
  have HS := Lib.hid (fun w h => small_ca nm M O Z S rv U H u wt a1 n1 c1 a2 n2 c2 acc la ld hsz w h)
  have j0_0 := x0.k.c0
  have j1_0 := x0.k.c1
  have j2_0 := x0.k.c2
  have j3_0 := x0.k.c3
  have j4_0 := x0.k.c4
  have j5_0 := x0.k.c5
  have j6_0 := x0.k.c6
  have j7_0 := x0.k.c7
  have k0_0 := x0.c.c0
  have k1_0 := x0.c.c1
  have k2_0 := x0.c.c2
  have k3_0 := x0.c.c3
  have k4_0 := x0.c.c4
  clear hca
  cases hs : smB M O u wt acc la ld
  · rw [hs] at HS
    clear hs hsz
    go_enter Tryz.func10, Tryz.ntmps10
    go_wp2_with fail
    refine (HS.out _ x0.ca).mono ?_; rintro e w1 ⟨rfl, b1⟩
    have x1 := x0.below b1
    go_wp2_with fail
    refine (awakeW _).mono ?_; rintro e wa ⟨rfl, ba⟩
    go_wp2_with fail
    go_ret
    exact ⟨rfl, (x1.below ba).lo⟩
  obtain ⟨l1, l2, h64, h16⟩ := smB_ok hs
  rw [hs] at HS
  clear hs hsz
  go_enter Tryz.func10, Tryz.ntmps10
  go_wp2_with fail
  refine (HS.out _ x0.ca).mono ?_; rintro e w1 ⟨rfl, b1⟩
  have x1 := x0.below b1
  clear j0_0 j1_0 j2_0 j3_0 j4_0 j5_0 j6_0 j7_0 k0_0 k1_0 k2_0 k3_0 k4_0
  have j0_1 := x1.k.c0
  have j1_1 := x1.k.c1
  have j2_1 := x1.k.c2
  have j3_1 := x1.k.c3
  have j4_1 := x1.k.c4
  have j5_1 := x1.k.c5
  have j6_1 := x1.k.c6
  have j7_1 := x1.k.c7
  have k0_1 := x1.c.c0
  have k1_1 := x1.c.c1
  have k2_1 := x1.c.c2
  have k3_1 := x1.c.c3
  have k4_1 := x1.c.c4
  clear HS
  go_wp2_with fail
  refine (r13Has_any M O wt _ h64).mono ?_; rintro e w2 ⟨rfl, b2⟩
  have x2 := x1.below b2
  clear j0_1 j1_1 j2_1 j3_1 j4_1 j5_1 j6_1 j7_1 k0_1 k1_1 k2_1 k3_1 k4_1
  have j0_2 := x2.k.c0
  have j1_2 := x2.k.c1
  have j2_2 := x2.k.c2
  have j3_2 := x2.k.c3
  have j4_2 := x2.k.c4
  have j5_2 := x2.k.c5
  have j6_2 := x2.k.c6
  have j7_2 := x2.k.c7
  have k0_2 := x2.c.c0
  have k1_2 := x2.c.c1
  have k2_2 := x2.c.c2
  have k3_2 := x2.c.c3
  have k4_2 := x2.c.c4
  cases hx : hasB M O wt
  · clear hx
    go_wp2_with fail
    refine (awakeW _).mono ?_; rintro e wa ⟨rfl, ba⟩
    go_wp2_with fail
    go_ret
    exact ⟨rfl, (x2.below ba).lo⟩
  have b3 := (Below.refl _ w2).alloc (Nat.le_refl _) (.cells #[.string u] 22)
  have hN3 := ns_one w2 u
  obtain ⟨w3, hw3⟩ : ∃ w', w2.alloc (.cells #[.string u] 22) = w' := ⟨_, rfl⟩
  rw [hw3] at b3 hN3
  have x3 := x2.below b3
  have j0_3 := x3.k.c0
  have j1_3 := x3.k.c1
  have j2_3 := x3.k.c2
  have j3_3 := x3.k.c3
  have j4_3 := x3.k.c4
  have j5_3 := x3.k.c5
  have j6_3 := x3.k.c6
  have j7_3 := x3.k.c7
  have k0_3 := x3.c.c0
  have k1_3 := x3.c.c1
  have k2_3 := x3.c.c2
  have k3_3 := x3.c.c3
  have k4_3 := x3.c.c4
  go_wp2_with fail
  refine (wrong_any _ _ 1 [u] _ hN3 rfl (by decide)).mono ?_; rintro e w3b ⟨rfl, rfl⟩
  cases hu : [u].any wrB
  rotate_left
  · clear hu
    go_wp2_with fail
    refine (awakeW _).mono ?_; rintro e wa ⟨rfl, ba⟩
    go_wp2_with fail
    go_ret
    exact ⟨rfl, (x3.below ba).lo⟩
  have hu' : wrB u = false := any_wr hu _ (by simp)
  go_wp2_with fail
  refine (wrong_any a1 c1 n1 la _ x3.ca.l1 x3.ca.e1 (Nat.le_trans x3.ca.b1 (by decide))).mono ?_; rintro e w3c ⟨rfl, rfl⟩
  cases ha : la.any wrB
  rotate_left
  · clear ha
    go_wp2_with fail
    refine (awakeW _).mono ?_; rintro e wa ⟨rfl, ba⟩
    go_wp2_with fail
    go_ret
    exact ⟨rfl, (x3.below ba).lo⟩
  have ha' := any_wr ha
  go_wp2_with fail
  refine (wrong_any a2 c2 n2 ld _ x3.ca.l2 x3.ca.e2 (Nat.le_trans x3.ca.b2 (by decide))).mono ?_; rintro e w3c ⟨rfl, rfl⟩
  cases hd : ld.any wrB
  rotate_left
  · clear hd
    go_wp2_with fail
    refine (awakeW _).mono ?_; rintro e wa ⟨rfl, ba⟩
    go_wp2_with fail
    go_ret
    exact ⟨rfl, (x3.below ba).lo⟩
  have hd' := any_wr hd
  obtain ⟨p1, p2⟩ := stays_plain hx hu' ha' hd'
  have p3 := wxE_cases u la ld
  have p4 := fun h => upS_bad (M := M) (O := O) (x := raS M O wt ld) (acc := raS M O (raS M O wt la) [u]) (u := u) (la := la) (ld := ld) h
  have HU := fun w (h : CA w a1 n1 c1 la a2 n2 c2 ld) => update_any nm M O Z S rv U H (raS M O wt ld) u a1 a2 c1 c2 n1 n2 la ld (raS M O (raS M O wt la) [u]) w h.l1 h.l2 h.e1 h.e2 (by have := h.e1; omega) (by have := h.e2; omega)
  have H1 := fun w (h : CA w a1 n1 c1 la a2 n2 c2 ld) => raised_any M O wt a2 c2 n2 ld w h.l2 h.e2 (Nat.le_trans h.b2 (by decide)) h64
  have H2 := fun w (h : CA w a1 n1 c1 la a2 n2 c2 ld) => raised_any M O wt a1 c1 n1 la w h.l1 h.e1 (Nat.le_trans h.b1 (by decide)) h64
  have H3 := fun w p (h : NS w p [u]) => raised_any M O (raS M O wt la) p 1 1 [u] w h rfl (by decide) h64
  rw [p1] at HU p4
  obtain ⟨R1, hR1⟩ : ∃ R, raS M O wt ld = R := ⟨_, rfl⟩
  obtain ⟨R2, hR2⟩ : ∃ R, raS M O wt la = R := ⟨_, rfl⟩
  obtain ⟨R3, hR3⟩ : ∃ R, raS M O (raS M O wt la) [u] = R := ⟨_, rfl⟩
  obtain ⟨V, hV⟩ : ∃ V, upS M O (raS M O wt ld) (raS M O (raS M O wt la) [u]) u la ld = V := ⟨_, rfl⟩
  obtain ⟨E, hE⟩ : ∃ E, wxE u la ld = E := ⟨_, rfl⟩
  rw [hV] at HU p2 p4
  rw [hR3] at HU H3
  rw [hR1] at HU H1
  rw [hR2] at H2 H3 p2
  rw [hE] at HU p2 p3 p4
  have HU := Lib.hid HU
  have H1 := Lib.hid H1
  have H2 := Lib.hid H2
  have H3 := Lib.hid H3
  clear p1 hx hu hu' ha ha' hd hd' hR1 hR2 hR3 hV hE h16 l1 l2
  go_wp2_with fail
  refine (H1.out _ x3.ca).mono ?_; rintro e w4 ⟨rfl, b4⟩
  have x4 := x3.below b4
  clear j0_2 j1_2 j2_2 j3_2 j4_2 j5_2 j6_2 j7_2 k0_2 k1_2 k2_2 k3_2 k4_2 j0_3 j1_3 j2_3 j3_3 j4_3 j5_3 j6_3 j7_3 k0_3 k1_3 k2_3 k3_3 k4_3
  have j0_4 := x4.k.c0
  have j1_4 := x4.k.c1
  have j2_4 := x4.k.c2
  have j3_4 := x4.k.c3
  have j4_4 := x4.k.c4
  have j5_4 := x4.k.c5
  have j6_4 := x4.k.c6
  have j7_4 := x4.k.c7
  have k0_4 := x4.c.c0
  have k1_4 := x4.c.c1
  have k2_4 := x4.c.c2
  have k3_4 := x4.c.c3
  have k4_4 := x4.c.c4
  clear H1
  go_wp2_with fail
  go_region_held3 (fun w' => w'.cell? ⟨w.heap.size, 1, none⟩ = some (.string M) ∧ w'.cell? ⟨w.heap.size, 2, none⟩ = some (.string O) ∧ w'.cell? ⟨w.heap.size + 1, 0, none⟩ = some (.string u) ∧ w'.cell? ⟨w.heap.size + 1, 1, none⟩ = some (.string wt) ∧ w'.cell? ⟨w.heap.size + 1, 2, none⟩ = some (.slice a1 n1 c1) ∧ KX w w' w.heap.size nm M O Z S rv U H u wt a1 n1 c1 a2 n2 c2 acc la ld)
    (first | exact kx_all x4.drew | exact kx_all (x4.alloc (.cells #[.string u] 22)).drew | (refine kx_keep ?_ br; assumption) | (refine kx_keep ?_ bs; assumption) | (refine kx_keep ?_ ((Below.refl _ _).alloc (Nat.le_refl _) _); assumption))
    (first
      | (go_at_call 41; (with_reducible refine (H2.out _ ?_).mono ?_); (· exact kx_last (by assumption)); rintro e wr ⟨rfl, br⟩)
      | (go_at_call 41; (with_reducible refine (H3.out _ _ ?_).mono ?_); (· first | exact ns_one _ u | exact (show NS (World.drew (World.alloc _ _)) _ _ from ns_one _ u).below br (Nat.le_refl _)); rintro e ws ⟨rfl, bs⟩))
  all_goals
    have x6 : KX w ws w.heap.size nm M O Z S rv U H u wt a1 n1 c1 a2 n2 c2 acc la ld := kx_fin (by assumption)
    have j0_6 := x6.k.c0
    have j1_6 := x6.k.c1
    have j2_6 := x6.k.c2
    have j3_6 := x6.k.c3
    have j4_6 := x6.k.c4
    have j5_6 := x6.k.c5
    have j6_6 := x6.k.c6
    have j7_6 := x6.k.c7
    have k0_6 := x6.c.c0
    have k1_6 := x6.c.c1
    have k2_6 := x6.c.c2
    have k3_6 := x6.c.c3
    have k4_6 := x6.c.c4
    clear j0_4 j1_4 j2_4 j3_4 j4_4 j5_4 j6_4 j7_4 k0_4 k1_4 k2_4 k3_4 k4_4
    go_wp2_with fail
    refine (HU.out _ x6.ca).mono ?_; rintro e w7 ⟨rfl, b7⟩
    have x7 := x6.below b7
    clear j0_6 j1_6 j2_6 j3_6 j4_6 j5_6 j6_6 j7_6 k0_6 k1_6 k2_6 k3_6 k4_6
    have j0_7 := x7.k.c0
    have j1_7 := x7.k.c1
    have j2_7 := x7.k.c2
    have j3_7 := x7.k.c3
    have j4_7 := x7.k.c4
    have j5_7 := x7.k.c5
    have j6_7 := x7.k.c6
    have j7_7 := x7.k.c7
    have k0_7 := x7.c.c0
    have k1_7 := x7.c.c1
    have k2_7 := x7.c.c2
    have k3_7 := x7.c.c3
    have k4_7 := x7.c.c4
    by_cases h0 : E = 0
    · have hV := p2 h0
      subst h0
      subst hV
      clear p2 p3 p4
      have b8 := (Below.refl _ w7).alloc (Nat.le_refl _) (.cells #[.string u] 22)
      have hN8 := ns_one w7 u
      obtain ⟨w8, hw8⟩ : ∃ w', w7.alloc (.cells #[.string u] 22) = w' := ⟨_, rfl⟩
      rw [hw8] at b8 hN8
      have x8 := x7.below b8
      have j0_8 := x8.k.c0
      have j1_8 := x8.k.c1
      have j2_8 := x8.k.c2
      have j3_8 := x8.k.c3
      have j4_8 := x8.k.c4
      have j5_8 := x8.k.c5
      have j6_8 := x8.k.c6
      have j7_8 := x8.k.c7
      have k0_8 := x8.c.c0
      have k1_8 := x8.c.c1
      have k2_8 := x8.c.c2
      have k3_8 := x8.c.c3
      have k4_8 := x8.c.c4
      go_wp2_with fail
      refine (H3.out _ _ hN8).mono ?_; rintro e w9 ⟨rfl, b9⟩
      have x9 := x8.below b9
      go_wp2_with fail
      refine (awakeW _).mono ?_; rintro e wa ⟨rfl, ba⟩
      go_wp2_with fail
      go_ret
      exact ⟨rfl, (x9.below ba).lo⟩
    · have hV := p4 h0
      subst hV
      rcases p3 with rfl | rfl | rfl | rfl
      · exact absurd rfl h0
      · clear p2 p4
        go_wp2_with fail
        refine (awakeW _).mono ?_; rintro e wa ⟨rfl, ba⟩
        go_wp2_with fail
        go_ret
        exact ⟨rfl, (x7.below ba).lo⟩
      · clear p2 p4
        go_wp2_with fail
        refine (awakeW _).mono ?_; rintro e wa ⟨rfl, ba⟩
        go_wp2_with fail
        go_ret
        exact ⟨rfl, (x7.below ba).lo⟩
      · clear p2 p4
        go_wp2_with fail
        refine (awakeW _).mono ?_; rintro e wa ⟨rfl, ba⟩
        go_wp2_with fail
        go_ret
        exact ⟨rfl, (x7.below ba).lo⟩
end Go.Proofs.YtcjbbneiobnmkaaGreat

/- The law WitnessAlone. -/
namespace Go.Proofs.YtcjbbneiobnmkaaGreat
open Go.RowKit Num
set_option maxRecDepth 20000
set_option linter.unusedVariables false
set_option maxHeartbeats 8000000 in
theorem walone_walk (nm M O Z S : ByteArray) (rv : Value) (U H u wt : ByteArray) (a1 : Option Addr) (n1 c1 : Nat) (a2 : Option Addr) (n2 c2 : Nat) (acc : ByteArray) (la ld : List ByteArray) (w : World) (hsz : ∀ x ∈ ([M, O, u, wt, acc] ++ la) ++ ld, x.size ≤ maxLen) (hca : CA w a1 n1 c1 la a2 n2 c2 ld) :
    Calls Tryz.prog 12 #[.agg #[.string nm, .string M, .string O, .string Z, .string S, rv, .string U, .string H], .agg #[.string u, .string wt, .slice a1 n1 c1, .slice a2 n2 c2, .string acc]] w fun e w' => e = .returned (.bool true) ∧ Below w.heap.size w w' := by
  obtain ⟨w0, hw0, x0⟩ := kx_new nm M O Z S rv U H u wt a1 n1 c1 a2 n2 c2 acc la ld w hca
  have HS := Lib.hid (fun w h => small_ca nm M O Z S rv U H u wt a1 n1 c1 a2 n2 c2 acc la ld hsz w h)
  have j0_0 := x0.k.c0
  have j1_0 := x0.k.c1
  have j2_0 := x0.k.c2
  have j3_0 := x0.k.c3
  have j4_0 := x0.k.c4
  have j5_0 := x0.k.c5
  have j6_0 := x0.k.c6
  have j7_0 := x0.k.c7
  have k0_0 := x0.c.c0
  have k1_0 := x0.c.c1
  have k2_0 := x0.c.c2
  have k3_0 := x0.c.c3
  have k4_0 := x0.c.c4
  clear hca
  cases hs : smB M O u wt acc la ld
  · rw [hs] at HS
    clear hs hsz
    go_enter Tryz.func12, Tryz.ntmps12
    go_wp2_with fail
    refine (HS.out _ x0.ca).mono ?_; rintro e w1 ⟨rfl, b1⟩
    have x1 := x0.below b1
    go_wp2_with fail
    refine (awakeW _).mono ?_; rintro e wa ⟨rfl, ba⟩
    go_wp2_with fail
    go_ret
    exact ⟨rfl, (x1.below ba).lo⟩
  obtain ⟨l1, l2, h64, h16⟩ := smB_ok hs
  rw [hs] at HS
  clear hs hsz
  go_enter Tryz.func12, Tryz.ntmps12
  go_wp2_with fail
  refine (HS.out _ x0.ca).mono ?_; rintro e w1 ⟨rfl, b1⟩
  have x1 := x0.below b1
  clear j0_0 j1_0 j2_0 j3_0 j4_0 j5_0 j6_0 j7_0 k0_0 k1_0 k2_0 k3_0 k4_0
  have j0_1 := x1.k.c0
  have j1_1 := x1.k.c1
  have j2_1 := x1.k.c2
  have j3_1 := x1.k.c3
  have j4_1 := x1.k.c4
  have j5_1 := x1.k.c5
  have j6_1 := x1.k.c6
  have j7_1 := x1.k.c7
  have k0_1 := x1.c.c0
  have k1_1 := x1.c.c1
  have k2_1 := x1.c.c2
  have k3_1 := x1.c.c3
  have k4_1 := x1.c.c4
  clear HS
  go_wp2_with fail
  refine (r13Has_any M O wt _ h64).mono ?_; rintro e w2 ⟨rfl, b2⟩
  have x2 := x1.below b2
  clear j0_1 j1_1 j2_1 j3_1 j4_1 j5_1 j6_1 j7_1 k0_1 k1_1 k2_1 k3_1 k4_1
  have j0_2 := x2.k.c0
  have j1_2 := x2.k.c1
  have j2_2 := x2.k.c2
  have j3_2 := x2.k.c3
  have j4_2 := x2.k.c4
  have j5_2 := x2.k.c5
  have j6_2 := x2.k.c6
  have j7_2 := x2.k.c7
  have k0_2 := x2.c.c0
  have k1_2 := x2.c.c1
  have k2_2 := x2.c.c2
  have k3_2 := x2.c.c3
  have k4_2 := x2.c.c4
  cases hx : hasB M O wt
  · clear hx
    go_wp2_with fail
    refine (awakeW _).mono ?_; rintro e wa ⟨rfl, ba⟩
    go_wp2_with fail
    go_ret
    exact ⟨rfl, (x2.below ba).lo⟩
  have b3 := (Below.refl _ w2).alloc (Nat.le_refl _) (.cells #[.string u] 22)
  have hN3 := ns_one w2 u
  obtain ⟨w3, hw3⟩ : ∃ w', w2.alloc (.cells #[.string u] 22) = w' := ⟨_, rfl⟩
  rw [hw3] at b3 hN3
  have x3 := x2.below b3
  have j0_3 := x3.k.c0
  have j1_3 := x3.k.c1
  have j2_3 := x3.k.c2
  have j3_3 := x3.k.c3
  have j4_3 := x3.k.c4
  have j5_3 := x3.k.c5
  have j6_3 := x3.k.c6
  have j7_3 := x3.k.c7
  have k0_3 := x3.c.c0
  have k1_3 := x3.c.c1
  have k2_3 := x3.c.c2
  have k3_3 := x3.c.c3
  have k4_3 := x3.c.c4
  go_wp2_with fail
  refine (wrong_any _ _ 1 [u] _ hN3 rfl (by decide)).mono ?_; rintro e w3b ⟨rfl, rfl⟩
  cases hu : [u].any wrB
  rotate_left
  · clear hu
    go_wp2_with fail
    refine (awakeW _).mono ?_; rintro e wa ⟨rfl, ba⟩
    go_wp2_with fail
    go_ret
    exact ⟨rfl, (x3.below ba).lo⟩
  have hu' : wrB u = false := any_wr hu _ (by simp)
  go_wp2_with fail
  refine (wrong_any a1 c1 n1 la _ x3.ca.l1 x3.ca.e1 (Nat.le_trans x3.ca.b1 (by decide))).mono ?_; rintro e w3c ⟨rfl, rfl⟩
  cases ha : la.any wrB
  rotate_left
  · clear ha
    go_wp2_with fail
    refine (awakeW _).mono ?_; rintro e wa ⟨rfl, ba⟩
    go_wp2_with fail
    go_ret
    exact ⟨rfl, (x3.below ba).lo⟩
  have ha' := any_wr ha
  rcases Nat.eq_zero_or_pos n2 with h0 | h0
  · clear hx hu hu' ha ha'
    go_wp2_with fail
    refine (awakeW _).mono ?_; rintro e wa ⟨rfl, ba⟩
    go_wp2_with fail
    go_ret
    exact ⟨rfl, (x3.below ba).lo⟩
  have hl : 0 < ld.length := by have := x3.ca.e2; omega
  obtain ⟨b, off, ha2, q3⟩ := x3.ca.l2 0 hl
  obtain ⟨g, hgg⟩ : ∃ g, ld[0]'hl = g := ⟨_, rfl⟩
  have sg := h16 g (List.mem_append_right _ (hgg ▸ List.getElem_mem hl))
  have su := h16 u (by simp)
  rw [hgg, Nat.add_zero] at q3
  rw [ha2] at k3_3
  clear hgg hl h16
  have b4 := (Below.refl _ w3).alloc (Nat.le_refl _) (.cells #[.string g] 22)
  have hN4 := ns_one w3 g
  obtain ⟨w4, hw4⟩ : ∃ w', w3.alloc (.cells #[.string g] 22) = w' := ⟨_, rfl⟩
  rw [hw4] at b4 hN4
  have x4 := x3.below b4
  have j0_4 := x4.k.c0
  have j1_4 := x4.k.c1
  have j2_4 := x4.k.c2
  have j3_4 := x4.k.c3
  have j4_4 := x4.k.c4
  have j5_4 := x4.k.c5
  have j6_4 := x4.k.c6
  have j7_4 := x4.k.c7
  have k0_4 := x4.c.c0
  have k1_4 := x4.c.c1
  have k2_4 := x4.c.c2
  have k3_4 := x4.c.c3
  have k4_4 := x4.c.c4
  rw [ha2] at k3_4
  have q4 := cellB_below q3 b4 (Nat.le_refl _)
  go_wp2_with fail
  refine (wrong_any _ _ 1 [g] _ hN4 rfl (by decide)).mono ?_; rintro e w4b ⟨rfl, rfl⟩
  cases hg : [g].any wrB
  rotate_left
  · clear hg hx hu hu' ha ha'
    go_wp2_with fail
    refine (awakeW _).mono ?_; rintro e wa ⟨rfl, ba⟩
    go_wp2_with fail
    go_ret
    exact ⟨rfl, (x4.below ba).lo⟩
  have hg' : wrB g = false := any_wr hg _ (by simp)
  obtain ⟨p1, p2, p3, p4, p5⟩ := alone_plain hx hu' ha' hg' su sg
  have HW1 := fun w p (h : NS w p [g]) => raised_any M O wt p 1 1 [g] w h rfl (by decide) h64
  have H3a := fun w p (h : NS w p [u]) => raised_any M O (raS M O wt [g]) p 1 1 [u] w h rfl (by decide) h64
  have HAD := fun w (h : CA w a1 n1 c1 la a2 n2 c2 ld) => added_any nm M O Z S rv U H (raS M O wt [g]) a1 c1 n1 la w h.l1 h.e1 (Nat.le_trans h.b1 (by decide))
  have H2a := fun w (h : CA w a1 n1 c1 la a2 n2 c2 ld) => raised_any M O (raS M O (raS M O wt [g]) [u]) a1 c1 n1 la w h.l1 h.e1 (Nat.le_trans h.b1 (by decide)) h64
  have H3b := fun w p (h : NS w p [u]) => raised_any M O (raS M O (raS M O wt [g]) la) p 1 1 [u] w h rfl (by decide) h64
  have H2 := fun w (h : CA w a1 n1 c1 la a2 n2 c2 ld) => raised_any M O wt a1 c1 n1 la w h.l1 h.e1 (Nat.le_trans h.b1 (by decide)) h64
  have H3 := fun w p (h : NS w p [u]) => raised_any M O (raS M O wt la) p 1 1 [u] w h rfl (by decide) h64
  have HR := fun w => removed_any nm M O Z S rv U H (raS M O (raS M O wt [g]) la) u g (raS M O (raS M O wt la) [u]) w
  rw [p1, p2, if_pos rfl] at HAD
  rw [p3] at H3b
  obtain ⟨A2, hA2⟩ : ∃ R, raS M O (raS M O (raS M O wt [g]) [u]) la = R := ⟨_, rfl⟩
  rw [hA2] at H3b H2a
  obtain ⟨A1, hA1⟩ : ∃ R, raS M O (raS M O wt [g]) [u] = R := ⟨_, rfl⟩
  rw [hA1] at H3a H2a
  obtain ⟨V, hV⟩ : ∃ V, upS M O (raS M O (raS M O wt [g]) la) (raS M O (raS M O wt la) [u]) u [] [g] = V := ⟨_, rfl⟩
  obtain ⟨E, hE⟩ : ∃ V, upE M O (raS M O (raS M O wt [g]) la) (raS M O (raS M O wt la) [u]) u [] [g] = V := ⟨_, rfl⟩
  rw [hV, hE] at HR p5
  rw [hE] at p4
  obtain ⟨R3, hR3⟩ : ∃ R, raS M O (raS M O wt [g]) la = R := ⟨_, rfl⟩
  rw [hR3] at HAD H3b HR
  obtain ⟨L, hL⟩ : ∃ R, raS M O (raS M O wt la) [u] = R := ⟨_, rfl⟩
  rw [hL] at H3 HR
  obtain ⟨R1, hR1⟩ : ∃ R, raS M O wt [g] = R := ⟨_, rfl⟩
  rw [hR1] at HW1 H3a HAD
  obtain ⟨R4, hR4⟩ : ∃ R, raS M O wt la = R := ⟨_, rfl⟩
  rw [hR4] at H2 H3 p5
  have HW1 := Lib.hid HW1
  have H3a := Lib.hid H3a
  have HAD := Lib.hid HAD
  have H2a := Lib.hid H2a
  have H3b := Lib.hid H3b
  have H2 := Lib.hid H2
  have H3 := Lib.hid H3
  have HR := Lib.hid HR
  clear p1 p2 p3 hA2 hA1 hV hE hR3 hL hR1 hR4 hx hu hu' ha ha' hg hg' su sg l1 l2
  have b5 := (Below.refl _ w4).alloc (Nat.le_refl _) (.cells #[.string g] 22)
  have hN5 := ns_one w4 g
  obtain ⟨w5, hw5⟩ : ∃ w', w4.alloc (.cells #[.string g] 22) = w' := ⟨_, rfl⟩
  rw [hw5] at b5 hN5
  have x5 := x4.below b5
  have j0_5 := x5.k.c0
  have j1_5 := x5.k.c1
  have j2_5 := x5.k.c2
  have j3_5 := x5.k.c3
  have j4_5 := x5.k.c4
  have j5_5 := x5.k.c5
  have j6_5 := x5.k.c6
  have j7_5 := x5.k.c7
  have k0_5 := x5.c.c0
  have k1_5 := x5.c.c1
  have k2_5 := x5.c.c2
  have k3_5 := x5.c.c3
  have k4_5 := x5.c.c4
  rw [ha2] at k3_5
  have q5 := cellB_below q4 b5 (Nat.le_refl _)
  go_wp2_with fail
  refine (HW1.out _ _ hN5).mono ?_; rintro e w6 ⟨rfl, b6⟩
  have x6 := x5.below b6
  clear j0_2 j1_2 j2_2 j3_2 j4_2 j5_2 j6_2 j7_2 k0_2 k1_2 k2_2 k3_2 k4_2 j0_3 j1_3 j2_3 j3_3 j4_3 j5_3 j6_3 j7_3 k0_3 k1_3 k2_3 k3_3 k4_3 j0_4 j1_4 j2_4 j3_4 j4_4 j5_4 j6_4 j7_4 k0_4 k1_4 k2_4 k3_4 k4_4 j0_5 j1_5 j2_5 j3_5 j4_5 j5_5 j6_5 j7_5 k0_5 k1_5 k2_5 k3_5 k4_5
  have j0_6 := x6.k.c0
  have j1_6 := x6.k.c1
  have j2_6 := x6.k.c2
  have j3_6 := x6.k.c3
  have j4_6 := x6.k.c4
  have j5_6 := x6.k.c5
  have j6_6 := x6.k.c6
  have j7_6 := x6.k.c7
  have k0_6 := x6.c.c0
  have k1_6 := x6.c.c1
  have k2_6 := x6.c.c2
  have k3_6 := x6.c.c3
  have k4_6 := x6.c.c4
  rw [ha2] at k3_6
  have q6 := cellB_below q5 b6 (Nat.le_refl _)
  have b7 := (Below.refl _ w6).alloc (Nat.le_refl _) (.cells #[.string u] 22)
  have hN7 := ns_one w6 u
  obtain ⟨w7, hw7⟩ : ∃ w', w6.alloc (.cells #[.string u] 22) = w' := ⟨_, rfl⟩
  rw [hw7] at b7 hN7
  have x7 := x6.below b7
  have j0_7 := x7.k.c0
  have j1_7 := x7.k.c1
  have j2_7 := x7.k.c2
  have j3_7 := x7.k.c3
  have j4_7 := x7.k.c4
  have j5_7 := x7.k.c5
  have j6_7 := x7.k.c6
  have j7_7 := x7.k.c7
  have k0_7 := x7.c.c0
  have k1_7 := x7.c.c1
  have k2_7 := x7.c.c2
  have k3_7 := x7.c.c3
  have k4_7 := x7.c.c4
  rw [ha2] at k3_7
  have q7 := cellB_below q6 b7 (Nat.le_refl _)
  go_wp2_with fail
  refine (H3a.out _ _ hN7).mono ?_; rintro e w8 ⟨rfl, b8⟩
  have x8 := x7.below b8
  clear j0_6 j1_6 j2_6 j3_6 j4_6 j5_6 j6_6 j7_6 k0_6 k1_6 k2_6 k3_6 k4_6 j0_7 j1_7 j2_7 j3_7 j4_7 j5_7 j6_7 j7_7 k0_7 k1_7 k2_7 k3_7 k4_7
  have j0_8 := x8.k.c0
  have j1_8 := x8.k.c1
  have j2_8 := x8.k.c2
  have j3_8 := x8.k.c3
  have j4_8 := x8.k.c4
  have j5_8 := x8.k.c5
  have j6_8 := x8.k.c6
  have j7_8 := x8.k.c7
  have k0_8 := x8.c.c0
  have k1_8 := x8.c.c1
  have k2_8 := x8.c.c2
  have k3_8 := x8.c.c3
  have k4_8 := x8.c.c4
  rw [ha2] at k3_8
  have q8 := cellB_below q7 b8 (Nat.le_refl _)
  go_wp2_with fail
  refine (HAD.out _ x8.ca).mono ?_; rintro e w9 ⟨rfl, b9⟩
  have x9 := x8.below b9
  clear j0_8 j1_8 j2_8 j3_8 j4_8 j5_8 j6_8 j7_8 k0_8 k1_8 k2_8 k3_8 k4_8
  have j0_9 := x9.k.c0
  have j1_9 := x9.k.c1
  have j2_9 := x9.k.c2
  have j3_9 := x9.k.c3
  have j4_9 := x9.k.c4
  have j5_9 := x9.k.c5
  have j6_9 := x9.k.c6
  have j7_9 := x9.k.c7
  have k0_9 := x9.c.c0
  have k1_9 := x9.c.c1
  have k2_9 := x9.c.c2
  have k3_9 := x9.c.c3
  have k4_9 := x9.c.c4
  rw [ha2] at k3_9
  have q9 := cellB_below q8 b9 (Nat.le_refl _)
  go_wp2_with fail
  refine (H2a.out _ x9.ca).mono ?_; rintro e w10 ⟨rfl, b10⟩
  have x10 := x9.below b10
  clear j0_9 j1_9 j2_9 j3_9 j4_9 j5_9 j6_9 j7_9 k0_9 k1_9 k2_9 k3_9 k4_9
  have j0_10 := x10.k.c0
  have j1_10 := x10.k.c1
  have j2_10 := x10.k.c2
  have j3_10 := x10.k.c3
  have j4_10 := x10.k.c4
  have j5_10 := x10.k.c5
  have j6_10 := x10.k.c6
  have j7_10 := x10.k.c7
  have k0_10 := x10.c.c0
  have k1_10 := x10.c.c1
  have k2_10 := x10.c.c2
  have k3_10 := x10.c.c3
  have k4_10 := x10.c.c4
  rw [ha2] at k3_10
  have q10 := cellB_below q9 b10 (Nat.le_refl _)
  have b11 := (Below.refl _ w10).alloc (Nat.le_refl _) (.cells #[.string u] 22)
  have hN11 := ns_one w10 u
  obtain ⟨w11, hw11⟩ : ∃ w', w10.alloc (.cells #[.string u] 22) = w' := ⟨_, rfl⟩
  rw [hw11] at b11 hN11
  have x11 := x10.below b11
  have j0_11 := x11.k.c0
  have j1_11 := x11.k.c1
  have j2_11 := x11.k.c2
  have j3_11 := x11.k.c3
  have j4_11 := x11.k.c4
  have j5_11 := x11.k.c5
  have j6_11 := x11.k.c6
  have j7_11 := x11.k.c7
  have k0_11 := x11.c.c0
  have k1_11 := x11.c.c1
  have k2_11 := x11.c.c2
  have k3_11 := x11.c.c3
  have k4_11 := x11.c.c4
  rw [ha2] at k3_11
  have q11 := cellB_below q10 b11 (Nat.le_refl _)
  go_wp2_with fail
  refine (H3b.out _ _ hN11).mono ?_; rintro e w12 ⟨rfl, b12⟩
  have x12 := x11.below b12
  clear j0_10 j1_10 j2_10 j3_10 j4_10 j5_10 j6_10 j7_10 k0_10 k1_10 k2_10 k3_10 k4_10 j0_11 j1_11 j2_11 j3_11 j4_11 j5_11 j6_11 j7_11 k0_11 k1_11 k2_11 k3_11 k4_11
  have j0_12 := x12.k.c0
  have j1_12 := x12.k.c1
  have j2_12 := x12.k.c2
  have j3_12 := x12.k.c3
  have j4_12 := x12.k.c4
  have j5_12 := x12.k.c5
  have j6_12 := x12.k.c6
  have j7_12 := x12.k.c7
  have k0_12 := x12.c.c0
  have k1_12 := x12.c.c1
  have k2_12 := x12.c.c2
  have k3_12 := x12.c.c3
  have k4_12 := x12.c.c4
  rw [ha2] at k3_12
  have q12 := cellB_below q11 b12 (Nat.le_refl _)
  clear HW1 H3a HAD H2a H3b
  go_wp2_with fail
  go_region_held3 (fun w' => w'.cell? ⟨w.heap.size, 1, none⟩ = some (.string M) ∧ w'.cell? ⟨w.heap.size, 2, none⟩ = some (.string O) ∧ w'.cell? ⟨w.heap.size + 1, 0, none⟩ = some (.string u) ∧ w'.cell? ⟨w.heap.size + 1, 1, none⟩ = some (.string wt) ∧ w'.cell? ⟨w.heap.size + 1, 2, none⟩ = some (.slice a1 n1 c1) ∧ KX w w' w.heap.size nm M O Z S rv U H u wt a1 n1 c1 a2 n2 c2 acc la ld)
    (first | exact kx_all x12.drew | exact kx_all (x12.alloc (.cells #[.string u] 22)).drew | (refine kx_keep ?_ br; assumption) | (refine kx_keep ?_ bs; assumption) | (refine kx_keep ?_ ((Below.refl _ _).alloc (Nat.le_refl _) _); assumption))
    (first
      | (go_at_call 41; (with_reducible refine (H2.out _ ?_).mono ?_); (· exact kx_last (by assumption)); rintro e wr ⟨rfl, br⟩)
      | (go_at_call 41; (with_reducible refine (H3.out _ _ ?_).mono ?_); (· first | exact ns_one _ u | exact (show NS (World.drew (World.alloc _ _)) _ _ from ns_one _ u).below br (Nat.le_refl _)); rintro e ws ⟨rfl, bs⟩))
  all_goals
    have x13 : KX w ws w.heap.size nm M O Z S rv U H u wt a1 n1 c1 a2 n2 c2 acc la ld := kx_fin (by assumption)
    have j0_13 := x13.k.c0
    have j1_13 := x13.k.c1
    have j2_13 := x13.k.c2
    have j3_13 := x13.k.c3
    have j4_13 := x13.k.c4
    have j5_13 := x13.k.c5
    have j6_13 := x13.k.c6
    have j7_13 := x13.k.c7
    have k0_13 := x13.c.c0
    have k1_13 := x13.c.c1
    have k2_13 := x13.c.c2
    have k3_13 := x13.c.c3
    have k4_13 := x13.c.c4
    clear j0_12 j1_12 j2_12 j3_12 j4_12 j5_12 j6_12 j7_12 k0_12 k1_12 k2_12 k3_12 k4_12
    go_wp2_with fail
    refine (HR.out _).mono ?_; rintro e w14 ⟨rfl, b14⟩
    have x14 := x13.below b14
    clear j0_13 j1_13 j2_13 j3_13 j4_13 j5_13 j6_13 j7_13 k0_13 k1_13 k2_13 k3_13 k4_13
    have j0_14 := x14.k.c0
    have j1_14 := x14.k.c1
    have j2_14 := x14.k.c2
    have j3_14 := x14.k.c3
    have j4_14 := x14.k.c4
    have j5_14 := x14.k.c5
    have j6_14 := x14.k.c6
    have j7_14 := x14.k.c7
    have k0_14 := x14.c.c0
    have k1_14 := x14.c.c1
    have k2_14 := x14.c.c2
    have k3_14 := x14.c.c3
    have k4_14 := x14.c.c4
    by_cases h1 : E = 0
    · have hV := p5 h1
      subst h1
      subst hV
      clear p4 p5
      have b15 := (Below.refl _ w14).alloc (Nat.le_refl _) (.cells #[.string u] 22)
      have hN15 := ns_one w14 u
      obtain ⟨w15, hw15⟩ : ∃ w', w14.alloc (.cells #[.string u] 22) = w' := ⟨_, rfl⟩
      rw [hw15] at b15 hN15
      have x15 := x14.below b15
      have j0_15 := x15.k.c0
      have j1_15 := x15.k.c1
      have j2_15 := x15.k.c2
      have j3_15 := x15.k.c3
      have j4_15 := x15.k.c4
      have j5_15 := x15.k.c5
      have j6_15 := x15.k.c6
      have j7_15 := x15.k.c7
      have k0_15 := x15.c.c0
      have k1_15 := x15.c.c1
      have k2_15 := x15.c.c2
      have k3_15 := x15.c.c3
      have k4_15 := x15.c.c4
      go_wp2_with fail
      refine (H3.out _ _ hN15).mono ?_; rintro e w16 ⟨rfl, b16⟩
      have x16 := x15.below b16
      go_wp2_with fail
      refine (awakeW _).mono ?_; rintro e wa ⟨rfl, ba⟩
      go_wp2_with fail
      go_ret
      exact ⟨rfl, (x16.below ba).lo⟩
    · rcases p4 with rfl | rfl | rfl
      · exact absurd rfl h1
      · clear p5
        go_wp2_with fail
        refine (awakeW _).mono ?_; rintro e wa ⟨rfl, ba⟩
        go_wp2_with fail
        go_ret
        exact ⟨rfl, (x14.below ba).lo⟩
      · clear p5
        go_wp2_with fail
        refine (awakeW _).mono ?_; rintro e wa ⟨rfl, ba⟩
        go_wp2_with fail
        go_ret
        exact ⟨rfl, (x14.below ba).lo⟩
end Go.Proofs.YtcjbbneiobnmkaaGreat
