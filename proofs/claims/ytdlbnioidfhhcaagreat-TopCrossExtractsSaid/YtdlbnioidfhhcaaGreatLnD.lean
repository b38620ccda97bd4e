import Derived.Test.YtdlbnioidfhhcaaGreatLnA
import Derived.Test.YtdlbnioidfhhcaaGreatZp
/- Plain: the products of a valid statement; images of sums. -/
namespace Go.Proofs.YtdlbnioidfhhcaaGreat
open Go.RowKit Num
set_option linter.unusedVariables false
set_option exponentiation.threshold 3000
/-- the sizes of the coefficients -/
def SzQ (q : EqP) : Prop := ∀ t ∈ q.2.2, t.2.2.2.size ≤ 8
def SzL (l : List (Bool × ByteArray)) : Prop := ∀ x ∈ l, x.2.size ≤ 32
theorem zi_iv {p : Bool × ByteArray} (h : ivB p = true) : p.1 = zb (zi p) ∧ p.2 = zs (zi p) ∧ ZOk (zi p) ∧ (zi p).natAbs = nv p.2 := by
  obtain ⟨g, E⟩ := p
  obtain ⟨z, h1, h2, h3, h4⟩ := iv_z h
  have e : zi (g, E) = z := by
    unfold zi
    simp only
    rw [h1, ← h4]
    unfold zb
    by_cases hz : z < 0
    · rw [decide_eq_true hz, if_pos rfl]; omega
    · rw [decide_eq_false hz, if_neg (by simp)]; omega
  rw [e]
  exact ⟨h1, h2, h3, h4⟩
theorem zi_z {z : Int} (h : ZOk z) : zi (zb z, zs z) = z := by
  unfold zi
  simp only
  rw [h.isN.nv]
  unfold zb
  by_cases hz : z < 0
  · rw [decide_eq_true hz, if_pos rfl]; omega
  · rw [decide_eq_false hz, if_neg (by simp)]; omega
theorem iv_zz {z : Int} (h : ZOk z) : ivB (zb z, zs z) = true := by unfold ivB; rw [h.isN.valid, zb_not]; rfl
theorem zi_lt {p : Bool × ByteArray} (h : ivB p = true) {k : Nat} (hk : p.2.size ≤ k) : (zi p).natAbs < 256 ^ k := by
  obtain ⟨_, h2, h3, h4⟩ := zi_iv h
  rw [← blen_le_iff, h4]
  have hv : validB p.2 = true := by
    obtain ⟨g, E⟩ := p
    unfold ivB at h
    rw [Bool.and_eq_true] at h
    exact h.1
  rw [← (isN_of_valid hv).size]; exact hk
theorem zm_ok {c x : Bool × ByteArray} (hc : ivB c = true) (hx : ivB x = true) (sc : c.2.size ≤ 8) (sx : x.2.size ≤ 32) : ZOk (zi c * zi x) := by
  have h1 := zi_lt hc sc
  have h2 := zi_lt hx sx
  unfold ZOk
  rw [blen_le_iff, Int.natAbs_mul]
  calc (zi c).natAbs * (zi x).natAbs ≤ 256 ^ 8 * 256 ^ 32 := Nat.mul_le_mul (Nat.le_of_lt h1) (Nat.le_of_lt h2)
    _ < 256 ^ 128 := by decide +kernel
/-- the product of powers -/
def zpr (m : Nat) : List (Nat × Int) → Nat
  | [] => 1
  | p :: r => zp m p.1 p.2 * zpr m r
theorem pr_zpr (m : Nat) : ∀ (l : List (ByteArray × Int)), (∀ p ∈ l, ZOk p.2) → pr (prs m (l.map (·.1)) (l.map fun p => (zb p.2, zs p.2))) % m = zpr m (l.map fun p => (nv p.1, p.2)) % m
  | [], _ => rfl
  | p :: l, h => by
    have ih := pr_zpr m l fun q hq => h q (by simp [hq])
    have hz := h p (by simp)
    simp only [List.map_cons, prs, List.zipWith_cons_cons, pr, zpr]
    unfold prs at ih
    rw [hz.isN.nv, Nat.mul_mod, ih, ← Nat.mul_mod]
    unfold zp
    rw [Nat.mod_mul_mod]
theorem zpr_add {m : Nat} (hm : 0 < m) : ∀ (l : List (Nat × Int × Int)), (∀ p ∈ l, Nat.gcd p.1 m = 1) → zpr m (l.map fun p => (p.1, p.2.1 + p.2.2)) % m = zpr m (l.map fun p => (p.1, p.2.1)) * zpr m (l.map fun p => (p.1, p.2.2)) % m
  | [], _ => by simp [zpr]
  | p :: l, h => by
    have ih := zpr_add hm l fun q hq => h q (by simp [hq])
    have hg := h p (by simp)
    simp only [List.map_cons, zpr]
    rw [Nat.mul_mod, ih, zp_add hm hg, Nat.mod_mod, ← Nat.mul_mod]
    congr 1
    simp only [Nat.mul_assoc, Nat.mul_left_comm]
section
variable {S : StP} {l : List (Bool × ByteArray)}
theorem ck_parts (h : lckE S = 0) : formB S = true ∧ manyB S = false ∧ elB S = true ∧ typB S = true := by
  unfold lckE rstE at h
  cases h1 : formB S <;> cases h2 : manyB S <;> cases h3 : elB S <;> cases h4 : typB S <;> simp [h1, h2, h3, h4] at h
  exact ⟨rfl, rfl, rfl, rfl⟩
theorem form_q (h : formB S = true) {q : EqP} (hq : q ∈ S.Q) : 0 ≤ q.1 ∧ q.1.toNat < S.G.length ∧ validB q.2.1 = true ∧ ∀ t ∈ q.2.2, 0 ≤ t.2.1 ∧ t.2.1.toNat < S.V.length ∧ validB t.1 = true ∧ ivB t.2.2 = true := by
  unfold formB at h
  simp only [Bool.and_eq_true, List.all_eq_true] at h
  have h1 := h.2.2 q hq
  unfold fmQ at h1
  simp only [Bool.and_eq_true, decide_eq_true_eq, List.all_eq_true] at h1
  refine ⟨h1.1, by omega, h1.2.2.1, fun t ht => ?_⟩
  have h2 := h1.2.2.2 t ht
  unfold fmT at h2
  simp only [Bool.and_eq_true, decide_eq_true_eq] at h2
  exact ⟨h2.1, by omega, h2.2.2.1, h2.2.2.2⟩
theorem el_q (h : elB S = true) (hf : formB S = true) {q : EqP} (hq : q ∈ S.Q) : gE (grpS S q).1 (grpS S q).2 = 0 ∧ hasB (grpS S q).1 (grpS S q).2 q.2.1 = true ∧ ∀ t ∈ q.2.2, hasB (grpS S q).1 (grpS S q).2 t.1 = true := by
  unfold elB at h
  simp only [Bool.and_eq_true, List.all_eq_true] at h
  have h1 := h.2 q hq
  unfold elQ at h1
  simp only [Bool.and_eq_true, List.all_eq_true] at h1
  obtain ⟨g1, g2, _⟩ := form_q hf hq
  have h2 := h.1 (grpS S q) (by
    unfold grpS
    rw [List.getD_eq_getElem?_getD, List.getElem?_eq_getElem g2]
    exact List.getElem_mem _)
  unfold ckG at h2
  exact ⟨of_decide_eq_true h2, h1.1, h1.2⟩
/-- what the variable of a term holds -/
theorem wit_t (hl : l.all ivB = true) (hlen : l.length = S.V.length) {t : TmR} (ht : t.2.1.toNat < S.V.length) : l.getD t.2.1.toNat (false, ⟨#[]⟩) ∈ l ∧ ivB (l.getD t.2.1.toNat (false, ⟨#[]⟩)) = true := by
  have h1 : l.getD t.2.1.toNat (false, ⟨#[]⟩) ∈ l := by
    rw [List.getD_eq_getElem?_getD, List.getElem?_eq_getElem (by omega)]
    exact List.getElem_mem _
  exact ⟨h1, List.all_eq_true.1 hl _ h1⟩
/-- the exponents of an equation as integers -/
def zex (l : List (Bool × ByteArray)) (t : TmR) : Int := zi t.2.2 * zi (l.getD t.2.1.toNat (false, ⟨#[]⟩))
theorem exps_z (q : EqP) : expsS l q = (q.2.2.map fun t => (t.1, zex l t)).map fun p => (zb p.2, zs p.2) := by
  unfold expsS zm zex
  rw [List.map_map]; rfl
theorem bases_z (q : EqP) : q.2.2.map (·.1) = (q.2.2.map fun t => (t.1, zex l t)).map (·.1) := by rw [List.map_map]; rfl
theorem im_ok (h : lckE S = 0) (hl : l.all ivB = true) (hlen : l.length = S.V.length) {q : EqP} (hq : q ∈ S.Q) (sq : SzQ q) (sl : SzL l) :
    gpE (grpS S q).1 (grpS S q).2 (q.2.2.map (·.1)) (expsS l q) = 0 ∧ (∀ t ∈ q.2.2, ZOk (zex l t)) ∧ imQ S l q = enc (zpr (nv (grpS S q).1) (q.2.2.map fun t => (nv t.1, zex l t)) % nv (grpS S q).1) := by
  obtain ⟨hf, hm, he, ht⟩ := ck_parts h
  obtain ⟨f1, f2, f3, f4⟩ := form_q hf hq
  obtain ⟨e1, e2, e3⟩ := el_q he hf hq
  have hz : ∀ t ∈ q.2.2, ZOk (zex l t) := fun t ht => by
    obtain ⟨g1, g2, g3, g4⟩ := f4 t ht
    obtain ⟨w1, w2⟩ := wit_t (S := S) hl hlen g2
    exact zm_ok g4 w2 (sq t ht) (sl _ w1)
  have hE : gpE (grpS S q).1 (grpS S q).2 (q.2.2.map (·.1)) (expsS l q) = 0 := by
    unfold gpE
    rw [decide_eq_true (by unfold expsS; simp), ck_last ⟨?_, ?_⟩ e1, if_pos ?_]
    · rw [List.all_eq_true]
      intro x hx
      obtain ⟨t, ht, rfl⟩ := List.mem_map.1 hx
      exact (hasB_ok (e3 t ht)).2.2
    · rw [List.all_eq_true]
      intro x hx
      obtain ⟨t, ht, rfl⟩ := List.mem_map.1 hx
      exact (f4 t ht).2.2.1
    · rw [List.all_eq_true]
      intro x hx
      unfold expsS at hx
      obtain ⟨t, ht, rfl⟩ := List.mem_map.1 hx
      exact iv_zz (hz t ht)
  refine ⟨hE, hz, ?_⟩
  unfold imQ gpS
  rw [hE, mo_zero, exps_z, bases_z (l := l), pr_zpr]
  · rw [List.map_map]; rfl
  · intro p hp
    obtain ⟨t, ht, rfl⟩ := List.mem_map.1 hp
    exact hz t ht
/-- the images of a sum -/
theorem im_add (h : lckE S = 0) {v w u : List (Bool × ByteArray)} (hv : v.all ivB = true) (hw : w.all ivB = true) (hu : u.all ivB = true) (lv : v.length = S.V.length) (lw : w.length = S.V.length) (lu : u.length = S.V.length)
    (hadd : ∀ k, k < S.V.length → zi (u.getD k (false, ⟨#[]⟩)) = zi (v.getD k (false, ⟨#[]⟩)) + zi (w.getD k (false, ⟨#[]⟩))) {q : EqP} (hq : q ∈ S.Q) (sq : SzQ q) (sv : SzL v) (sw : SzL w) (su : SzL u) :
    gmE (grpS S q).1 (grpS S q).2 (imQ S v q) (imQ S w q) = 0 ∧ gmS (grpS S q).1 (grpS S q).2 (imQ S v q) (imQ S w q) = imQ S u q := by
  obtain ⟨hf, hm, he, ht⟩ := ck_parts h
  obtain ⟨f1, f2, f3, f4⟩ := form_q hf hq
  obtain ⟨e1, e2, e3⟩ := el_q he hf hq
  obtain ⟨v1, v2, v3⟩ := im_ok h hv lv hq sq sv
  obtain ⟨w1, w2, w3⟩ := im_ok h hw lw hq sq sw
  obtain ⟨u1, u2, u3⟩ := im_ok h hu lu hq sq su
  have a1 := hasB_ok (gpS_ok v1)
  have a2 := hasB_ok (gpS_ok w1)
  obtain ⟨hM, _, hm2, _⟩ := gE_ok e1
  have n1 : nv (imQ S v q) = zpr (nv (grpS S q).1) (q.2.2.map fun t => (nv t.1, zex v t)) % nv (grpS S q).1 := by rw [v3, nv_enc]
  have n2 : nv (imQ S w q) = zpr (nv (grpS S q).1) (q.2.2.map fun t => (nv t.1, zex w t)) % nv (grpS S q).1 := by rw [w3, nv_enc]
  have b1 : elN (nv (grpS S q).1) (nv (grpS S q).2) (nv (imQ S v q)) = true := a1.2.2
  have b2 : elN (nv (grpS S q).1) (nv (grpS S q).2) (nv (imQ S w q)) = true := a2.2.2
  have hh := gm_ok e1 b1 b2
  rw [n1, n2, ← v3, ← w3, ← Nat.mul_mod] at hh
  refine ⟨hh.1, hh.2.trans ?_⟩
  rw [u3]
  congr 1
  have e : ∀ t ∈ q.2.2, zex u t = zex v t + zex w t := fun t ht => by
    unfold zex
    rw [hadd _ (f4 t ht).2.1, Int.mul_add]
  have e2 : q.2.2.map (fun t => (nv t.1, zex u t)) = (q.2.2.map fun t => (nv t.1, zex v t, zex w t)).map fun p => (p.1, p.2.1 + p.2.2) := by
    rw [List.map_map]
    refine List.map_congr_left fun t ht => ?_
    simp [e t ht]
  rw [e2, zpr_add (by omega)]
  · rw [List.map_map, List.map_map]; rfl
  · intro p hp
    obtain ⟨t, ht, rfl⟩ := List.mem_map.1 hp
    exact el_unit (hasB_ok (e3 t ht)).2.2
end
end Go.Proofs.YtdlbnioidfhhcaaGreat

/- linear: the library's IndexFunc and ContainsFunc with the closures of linear (printed by gens15.py). -/
namespace Go.Proofs.YtdlbnioidfhhcaaGreat
open Go.RowKit Num
set_option maxRecDepth 20000
set_option linter.unusedVariables false
theorem idx_sz (ao : Option Addr) (c n : Nat) (l : List EqR) (P : EqR → Bool) (w : World) (hl : QSl w ao l) (hn : l.length = n) (h1 : n ≤ maxLen) (HF : ∀ wr, Below w.heap.size w wr → ∀ x ∈ l, Calls Tryz.prog 123 #[.agg #[.int .i64 x.1, .string x.2.1, .slice x.2.2.1 x.2.2.2.2.length x.2.2.2.1]] wr fun e w' => e = .returned (.bool (P x)) ∧ Below wr.heap.size wr w') :
    Calls Tryz.prog 138 #[.slice ao n c, .func (.func 123) #[] #[]] w fun e w' => (∃ x : Int, e = .returned (.int .i64 x) ∧ (decide (0 ≤ x) = l.any P)) ∧ Below w.heap.size w w' := by
  unfold maxLen at h1
  have HN := Lib.hid hn
  have HFF := Lib.hid HF
  have HL := Lib.hid hl
  clear hn hl HF
  go_enter Tryz.func138, Tryz.ntmps138
  go_wp2_with fail
  go_loopw [8] (fun v8 wr => ∃ k : Nat, k ≤ n ∧ v8 = .int .i64 k ∧ Hid (∀ j (hj : j < l.length), j < k → P l[j] = false) ∧ Below w.heap.size w wr) (fun v8 _ => n - (intOf v8).toNat)
  case atStart => exact ⟨0, by omega, rfl, fun j _ h => by omega, Below.refl _ _⟩
  case round =>
    obtain ⟨k, hk, rfl, hv, hB⟩ := hrel
    by_cases hlt : k < n
    · have hkl : k < l.length := by rw [HN.out]; exact hlt
      obtain ⟨b, off, rfl, d0, d1, d2, _⟩ := (HL.out.keep (cells_keepL hB (Nat.le_refl _))) k hkl
      obtain ⟨X, hX⟩ : ∃ X, l[k] = X := ⟨_, rfl⟩
      rw [hX] at d0 d1 d2
      have hXm : X ∈ l := by rw [← hX]; exact List.getElem_mem hkl
      have HX := HFF.out wr hB X hXm
      cases he : P X
      · have HST : Hid (∀ j (hj : j < l.length), j < k + 1 → P l[j] = false) := fun j hj hjk => by
          by_cases e : j = k
          · subst e; rw [hX, he]
          · exact hv.out j hj (by omega)
        rw [he] at HX
        have HX := Lib.hid HX
        clear hX hXm he hv
        obtain ⟨x0, x1, x2, x3, x4⟩ := X
        try simp only at d0 d1 d2 HX
        go_wp2_with fail
        refine HX.out.mono ?_; rintro e w1 ⟨rfl, b1⟩
        have hB2 := hB.trans (b1.mono hB.size)
        go_wp2_with fail
        exact ⟨⟨k + 1, by omega, by go_num, HST, hB2⟩, by simp [intOf]; omega⟩
      · have HR : Hid (l.any P = true) := List.any_eq_true.2 ⟨X, hXm, he⟩
        rw [he] at HX
        have HX := Lib.hid HX
        clear hX hXm he hv
        obtain ⟨x0, x1, x2, x3, x4⟩ := X
        try simp only at d0 d1 d2 HX
        go_wp2_with fail
        refine HX.out.mono ?_; rintro e w1 ⟨rfl, b1⟩
        have hB2 := hB.trans (b1.mono hB.size)
        go_wp2_with fail
        go_ret
        exact ⟨⟨_, rfl, by rw [HR.out]; exact decide_eq_true (by omega)⟩, hB2⟩
    · obtain rfl : k = n := by omega
      have HR : Hid (l.any P = false) := by
        show l.any P = false
        rw [Bool.eq_false_iff]
        intro h
        obtain ⟨x, hx, hd⟩ := List.any_eq_true.1 h
        obtain ⟨j, hj, rfl⟩ := List.mem_iff_getElem.1 hx
        rw [hv.out j hj (by rw [HN.out] at hj; exact hj)] at hd
        cases hd
      clear hv
      go_wp2_with fail
      go_ret
      exact ⟨⟨_, rfl, by rw [HR.out]; decide⟩, hB⟩
theorem con_sz (ao : Option Addr) (c n : Nat) (l : List EqR) (P : EqR → Bool) (w : World) (hl : QSl w ao l) (hn : l.length = n) (h1 : n ≤ maxLen) (HF : ∀ wr, Below w.heap.size w wr → ∀ x ∈ l, Calls Tryz.prog 123 #[.agg #[.int .i64 x.1, .string x.2.1, .slice x.2.2.1 x.2.2.2.2.length x.2.2.2.1]] wr fun e w' => e = .returned (.bool (P x)) ∧ Below wr.heap.size wr w') :
    Calls Tryz.prog 122 #[.slice ao n c, .func (.func 123) #[] #[]] w fun e w' => e = .returned (.bool (l.any P)) ∧ Below w.heap.size w w' := by
  have H := Lib.hid (idx_sz ao c n l P w hl hn h1 HF)
  obtain ⟨V, hV⟩ : ∃ V, l.any P = V := ⟨_, rfl⟩
  rw [hV] at H ⊢
  clear hl hn h1 HF hV
  go_enter Tryz.func122, Tryz.ntmps122
  go_wp2_with fail
  refine H.out.mono ?_; rintro e w1 ⟨⟨x, rfl, hx⟩, b1⟩
  have HX := Lib.hid hx
  clear hx
  go_wp2_with fail
  go_ret
  exact ⟨ret_bool HX.out, b1⟩
theorem idx_el (ao : Option Addr) (c n : Nat) (l : List TmR) (P : TmR → Bool) (p : Nat) (w : World) (hl : TSl w ao l) (hn : l.length = n) (h1 : n ≤ maxLen) (HF : ∀ wr, Below w.heap.size w wr → ∀ x ∈ l, Calls Tryz.prog 125 #[.agg #[.string x.1, .int .i64 x.2.1, .bool x.2.2.1, .string x.2.2.2], .pointer (some ⟨p, 0, none⟩)] wr fun e w' => e = .returned (.bool (P x)) ∧ Below wr.heap.size wr w') :
    Calls Tryz.prog 139 #[.slice ao n c, .func (.func 125) #[] #[.pointer (some ⟨p, 0, none⟩)]] w fun e w' => (∃ x : Int, e = .returned (.int .i64 x) ∧ (decide (0 ≤ x) = l.any P)) ∧ Below w.heap.size w w' := by
  unfold maxLen at h1
  have HN := Lib.hid hn
  have HFF := Lib.hid HF
  have HL := Lib.hid hl
  clear hn hl HF
  go_enter Tryz.func139, Tryz.ntmps139
  go_wp2_with fail
  go_loopw [8] (fun v8 wr => ∃ k : Nat, k ≤ n ∧ v8 = .int .i64 k ∧ Hid (∀ j (hj : j < l.length), j < k → P l[j] = false) ∧ Below w.heap.size w wr) (fun v8 _ => n - (intOf v8).toNat)
  case atStart => exact ⟨0, by omega, rfl, fun j _ h => by omega, Below.refl _ _⟩
  case round =>
    obtain ⟨k, hk, rfl, hv, hB⟩ := hrel
    by_cases hlt : k < n
    · have hkl : k < l.length := by rw [HN.out]; exact hlt
      obtain ⟨b, off, rfl, d0, d1, d2, d3⟩ := (HL.out.keep (cells_keepL hB (Nat.le_refl _))) k hkl
      obtain ⟨X, hX⟩ : ∃ X, l[k] = X := ⟨_, rfl⟩
      rw [hX] at d0 d1 d2 d3
      have hXm : X ∈ l := by rw [← hX]; exact List.getElem_mem hkl
      have HX := HFF.out wr hB X hXm
      cases he : P X
      · have HST : Hid (∀ j (hj : j < l.length), j < k + 1 → P l[j] = false) := fun j hj hjk => by
          by_cases e : j = k
          · subst e; rw [hX, he]
          · exact hv.out j hj (by omega)
        rw [he] at HX
        have HX := Lib.hid HX
        clear hX hXm he hv
        obtain ⟨x0, x1, x2, x3⟩ := X
        try simp only at d0 d1 d2 d3 HX
        go_wp2_with fail
        refine HX.out.mono ?_; rintro e w1 ⟨rfl, b1⟩
        have hB2 := hB.trans (b1.mono hB.size)
        go_wp2_with fail
        exact ⟨⟨k + 1, by omega, by go_num, HST, hB2⟩, by simp [intOf]; omega⟩
      · have HR : Hid (l.any P = true) := List.any_eq_true.2 ⟨X, hXm, he⟩
        rw [he] at HX
        have HX := Lib.hid HX
        clear hX hXm he hv
        obtain ⟨x0, x1, x2, x3⟩ := X
        try simp only at d0 d1 d2 d3 HX
        go_wp2_with fail
        refine HX.out.mono ?_; rintro e w1 ⟨rfl, b1⟩
        have hB2 := hB.trans (b1.mono hB.size)
        go_wp2_with fail
        go_ret
        exact ⟨⟨_, rfl, by rw [HR.out]; exact decide_eq_true (by omega)⟩, hB2⟩
    · obtain rfl : k = n := by omega
      have HR : Hid (l.any P = false) := by
        show l.any P = false
        rw [Bool.eq_false_iff]
        intro h
        obtain ⟨x, hx, hd⟩ := List.any_eq_true.1 h
        obtain ⟨j, hj, rfl⟩ := List.mem_iff_getElem.1 hx
        rw [hv.out j hj (by rw [HN.out] at hj; exact hj)] at hd
        cases hd
      clear hv
      go_wp2_with fail
      go_ret
      exact ⟨⟨_, rfl, by rw [HR.out]; decide⟩, hB⟩
theorem con_el (ao : Option Addr) (c n : Nat) (l : List TmR) (P : TmR → Bool) (p : Nat) (w : World) (hl : TSl w ao l) (hn : l.length = n) (h1 : n ≤ maxLen) (HF : ∀ wr, Below w.heap.size w wr → ∀ x ∈ l, Calls Tryz.prog 125 #[.agg #[.string x.1, .int .i64 x.2.1, .bool x.2.2.1, .string x.2.2.2], .pointer (some ⟨p, 0, none⟩)] wr fun e w' => e = .returned (.bool (P x)) ∧ Below wr.heap.size wr w') :
    Calls Tryz.prog 124 #[.slice ao n c, .func (.func 125) #[] #[.pointer (some ⟨p, 0, none⟩)]] w fun e w' => e = .returned (.bool (l.any P)) ∧ Below w.heap.size w w' := by
  have H := Lib.hid (idx_el ao c n l P p w hl hn h1 HF)
  obtain ⟨V, hV⟩ : ∃ V, l.any P = V := ⟨_, rfl⟩
  rw [hV] at H ⊢
  clear hl hn h1 HF hV
  go_enter Tryz.func124, Tryz.ntmps124
  go_wp2_with fail
  refine H.out.mono ?_; rintro e w1 ⟨⟨x, rfl, hx⟩, b1⟩
  have HX := Lib.hid hx
  clear hx
  go_wp2_with fail
  go_ret
  exact ⟨ret_bool HX.out, b1⟩
theorem idx_k1 (ao : Option Addr) (c n : Nat) (l : List ByteArray) (P : ByteArray → Bool) (w : World) (hl : NS w ao l) (hn : l.length = n) (h1 : n ≤ maxLen) (HF : ∀ wr, Below w.heap.size w wr → ∀ x ∈ l, Calls Tryz.prog 127 #[.agg #[.string x]] wr fun e w' => e = .returned (.bool (P x)) ∧ Below wr.heap.size wr w') :
    Calls Tryz.prog 140 #[.slice ao n c, .func (.func 127) #[] #[]] w fun e w' => (∃ x : Int, e = .returned (.int .i64 x) ∧ (decide (0 ≤ x) = l.any P)) ∧ Below w.heap.size w w' := by
  unfold maxLen at h1
  have HN := Lib.hid hn
  have HFF := Lib.hid HF
  have HL := Lib.hid hl
  clear hn hl HF
  go_enter Tryz.func140, Tryz.ntmps140
  go_wp2_with fail
  go_loopw [8] (fun v8 wr => ∃ k : Nat, k ≤ n ∧ v8 = .int .i64 k ∧ Hid (∀ j (hj : j < l.length), j < k → P l[j] = false) ∧ Below w.heap.size w wr) (fun v8 _ => n - (intOf v8).toNat)
  case atStart => exact ⟨0, by omega, rfl, fun j _ h => by omega, Below.refl _ _⟩
  case round =>
    obtain ⟨k, hk, rfl, hv, hB⟩ := hrel
    by_cases hlt : k < n
    · have hkl : k < l.length := by rw [HN.out]; exact hlt
      obtain ⟨b, off, rfl, d0⟩ := (HL.out.keepL (cells_keepL hB (Nat.le_refl _))) k hkl
      obtain ⟨X, hX⟩ : ∃ X, l[k] = X := ⟨_, rfl⟩
      rw [hX] at d0
      have hXm : X ∈ l := by rw [← hX]; exact List.getElem_mem hkl
      have HX := HFF.out wr hB X hXm
      cases he : P X
      · have HST : Hid (∀ j (hj : j < l.length), j < k + 1 → P l[j] = false) := fun j hj hjk => by
          by_cases e : j = k
          · subst e; rw [hX, he]
          · exact hv.out j hj (by omega)
        rw [he] at HX
        have HX := Lib.hid HX
        clear hX hXm he hv
        go_wp2_with fail
        refine HX.out.mono ?_; rintro e w1 ⟨rfl, b1⟩
        have hB2 := hB.trans (b1.mono hB.size)
        go_wp2_with fail
        exact ⟨⟨k + 1, by omega, by go_num, HST, hB2⟩, by simp [intOf]; omega⟩
      · have HR : Hid (l.any P = true) := List.any_eq_true.2 ⟨X, hXm, he⟩
        rw [he] at HX
        have HX := Lib.hid HX
        clear hX hXm he hv
        go_wp2_with fail
        refine HX.out.mono ?_; rintro e w1 ⟨rfl, b1⟩
        have hB2 := hB.trans (b1.mono hB.size)
        go_wp2_with fail
        go_ret
        exact ⟨⟨_, rfl, by rw [HR.out]; exact decide_eq_true (by omega)⟩, hB2⟩
    · obtain rfl : k = n := by omega
      have HR : Hid (l.any P = false) := by
        show l.any P = false
        rw [Bool.eq_false_iff]
        intro h
        obtain ⟨x, hx, hd⟩ := List.any_eq_true.1 h
        obtain ⟨j, hj, rfl⟩ := List.mem_iff_getElem.1 hx
        rw [hv.out j hj (by rw [HN.out] at hj; exact hj)] at hd
        cases hd
      clear hv
      go_wp2_with fail
      go_ret
      exact ⟨⟨_, rfl, by rw [HR.out]; decide⟩, hB⟩
theorem con_k1 (ao : Option Addr) (c n : Nat) (l : List ByteArray) (P : ByteArray → Bool) (w : World) (hl : NS w ao l) (hn : l.length = n) (h1 : n ≤ maxLen) (HF : ∀ wr, Below w.heap.size w wr → ∀ x ∈ l, Calls Tryz.prog 127 #[.agg #[.string x]] wr fun e w' => e = .returned (.bool (P x)) ∧ Below wr.heap.size wr w') :
    Calls Tryz.prog 126 #[.slice ao n c, .func (.func 127) #[] #[]] w fun e w' => e = .returned (.bool (l.any P)) ∧ Below w.heap.size w w' := by
  have H := Lib.hid (idx_k1 ao c n l P w hl hn h1 HF)
  obtain ⟨V, hV⟩ : ∃ V, l.any P = V := ⟨_, rfl⟩
  rw [hV] at H ⊢
  clear hl hn h1 HF hV
  go_enter Tryz.func126, Tryz.ntmps126
  go_wp2_with fail
  refine H.out.mono ?_; rintro e w1 ⟨⟨x, rfl, hx⟩, b1⟩
  have HX := Lib.hid hx
  clear hx
  go_wp2_with fail
  go_ret
  exact ⟨ret_bool HX.out, b1⟩
theorem idx_k2 (ao : Option Addr) (c n : Nat) (l : List (ByteArray × ByteArray)) (P : (ByteArray × ByteArray) → Bool) (p : Nat) (w : World) (hl : GSl w ao l) (hn : l.length = n) (h1 : n ≤ maxLen) (HF : ∀ wr, Below w.heap.size w wr → ∀ x ∈ l, Calls Tryz.prog 130 #[.agg #[.string x.1, .string x.2], .pointer (some ⟨p, 0, none⟩)] wr fun e w' => e = .returned (.bool (P x)) ∧ Below wr.heap.size wr w') :
    Calls Tryz.prog 141 #[.slice ao n c, .func (.func 130) #[] #[.pointer (some ⟨p, 0, none⟩)]] w fun e w' => (∃ x : Int, e = .returned (.int .i64 x) ∧ (decide (0 ≤ x) = l.any P)) ∧ Below w.heap.size w w' := by
  unfold maxLen at h1
  have HN := Lib.hid hn
  have HFF := Lib.hid HF
  have HL := Lib.hid hl
  clear hn hl HF
  go_enter Tryz.func141, Tryz.ntmps141
  go_wp2_with fail
  go_loopw [8] (fun v8 wr => ∃ k : Nat, k ≤ n ∧ v8 = .int .i64 k ∧ Hid (∀ j (hj : j < l.length), j < k → P l[j] = false) ∧ Below w.heap.size w wr) (fun v8 _ => n - (intOf v8).toNat)
  case atStart => exact ⟨0, by omega, rfl, fun j _ h => by omega, Below.refl _ _⟩
  case round =>
    obtain ⟨k, hk, rfl, hv, hB⟩ := hrel
    by_cases hlt : k < n
    · have hkl : k < l.length := by rw [HN.out]; exact hlt
      obtain ⟨b, off, rfl, d0, d1⟩ := (HL.out.keep (cells_keepL hB (Nat.le_refl _))) k hkl
      obtain ⟨X, hX⟩ : ∃ X, l[k] = X := ⟨_, rfl⟩
      rw [hX] at d0 d1
      have hXm : X ∈ l := by rw [← hX]; exact List.getElem_mem hkl
      have HX := HFF.out wr hB X hXm
      cases he : P X
      · have HST : Hid (∀ j (hj : j < l.length), j < k + 1 → P l[j] = false) := fun j hj hjk => by
          by_cases e : j = k
          · subst e; rw [hX, he]
          · exact hv.out j hj (by omega)
        rw [he] at HX
        have HX := Lib.hid HX
        clear hX hXm he hv
        obtain ⟨x0, x1⟩ := X
        try simp only at d0 d1 HX
        go_wp2_with fail
        refine HX.out.mono ?_; rintro e w1 ⟨rfl, b1⟩
        have hB2 := hB.trans (b1.mono hB.size)
        go_wp2_with fail
        exact ⟨⟨k + 1, by omega, by go_num, HST, hB2⟩, by simp [intOf]; omega⟩
      · have HR : Hid (l.any P = true) := List.any_eq_true.2 ⟨X, hXm, he⟩
        rw [he] at HX
        have HX := Lib.hid HX
        clear hX hXm he hv
        obtain ⟨x0, x1⟩ := X
        try simp only at d0 d1 HX
        go_wp2_with fail
        refine HX.out.mono ?_; rintro e w1 ⟨rfl, b1⟩
        have hB2 := hB.trans (b1.mono hB.size)
        go_wp2_with fail
        go_ret
        exact ⟨⟨_, rfl, by rw [HR.out]; exact decide_eq_true (by omega)⟩, hB2⟩
    · obtain rfl : k = n := by omega
      have HR : Hid (l.any P = false) := by
        show l.any P = false
        rw [Bool.eq_false_iff]
        intro h
        obtain ⟨x, hx, hd⟩ := List.any_eq_true.1 h
        obtain ⟨j, hj, rfl⟩ := List.mem_iff_getElem.1 hx
        rw [hv.out j hj (by rw [HN.out] at hj; exact hj)] at hd
        cases hd
      clear hv
      go_wp2_with fail
      go_ret
      exact ⟨⟨_, rfl, by rw [HR.out]; decide⟩, hB⟩
theorem con_k2 (ao : Option Addr) (c n : Nat) (l : List (ByteArray × ByteArray)) (P : (ByteArray × ByteArray) → Bool) (p : Nat) (w : World) (hl : GSl w ao l) (hn : l.length = n) (h1 : n ≤ maxLen) (HF : ∀ wr, Below w.heap.size w wr → ∀ x ∈ l, Calls Tryz.prog 130 #[.agg #[.string x.1, .string x.2], .pointer (some ⟨p, 0, none⟩)] wr fun e w' => e = .returned (.bool (P x)) ∧ Below wr.heap.size wr w') :
    Calls Tryz.prog 129 #[.slice ao n c, .func (.func 130) #[] #[.pointer (some ⟨p, 0, none⟩)]] w fun e w' => e = .returned (.bool (l.any P)) ∧ Below w.heap.size w w' := by
  have H := Lib.hid (idx_k2 ao c n l P p w hl hn h1 HF)
  obtain ⟨V, hV⟩ : ∃ V, l.any P = V := ⟨_, rfl⟩
  rw [hV] at H ⊢
  clear hl hn h1 HF hV
  go_enter Tryz.func129, Tryz.ntmps129
  go_wp2_with fail
  refine H.out.mono ?_; rintro e w1 ⟨⟨x, rfl, hx⟩, b1⟩
  have HX := Lib.hid hx
  clear hx
  go_wp2_with fail
  go_ret
  exact ⟨ret_bool HX.out, b1⟩
theorem idx_k3 (ao : Option Addr) (c n : Nat) (l : List TmR) (P : TmR → Bool) (p : Nat) (w : World) (hl : TSl w ao l) (hn : l.length = n) (h1 : n ≤ maxLen) (HF : ∀ wr, Below w.heap.size w wr → ∀ x ∈ l, Calls Tryz.prog 131 #[.agg #[.string x.1, .int .i64 x.2.1, .bool x.2.2.1, .string x.2.2.2], .pointer (some ⟨p, 0, none⟩)] wr fun e w' => e = .returned (.bool (P x)) ∧ Below wr.heap.size wr w') :
    Calls Tryz.prog 139 #[.slice ao n c, .func (.func 131) #[] #[.pointer (some ⟨p, 0, none⟩)]] w fun e w' => (∃ x : Int, e = .returned (.int .i64 x) ∧ (decide (0 ≤ x) = l.any P)) ∧ Below w.heap.size w w' := by
  unfold maxLen at h1
  have HN := Lib.hid hn
  have HFF := Lib.hid HF
  have HL := Lib.hid hl
  clear hn hl HF
  go_enter Tryz.func139, Tryz.ntmps139
  go_wp2_with fail
  go_loopw [8] (fun v8 wr => ∃ k : Nat, k ≤ n ∧ v8 = .int .i64 k ∧ Hid (∀ j (hj : j < l.length), j < k → P l[j] = false) ∧ Below w.heap.size w wr) (fun v8 _ => n - (intOf v8).toNat)
  case atStart => exact ⟨0, by omega, rfl, fun j _ h => by omega, Below.refl _ _⟩
  case round =>
    obtain ⟨k, hk, rfl, hv, hB⟩ := hrel
    by_cases hlt : k < n
    · have hkl : k < l.length := by rw [HN.out]; exact hlt
      obtain ⟨b, off, rfl, d0, d1, d2, d3⟩ := (HL.out.keep (cells_keepL hB (Nat.le_refl _))) k hkl
      obtain ⟨X, hX⟩ : ∃ X, l[k] = X := ⟨_, rfl⟩
      rw [hX] at d0 d1 d2 d3
      have hXm : X ∈ l := by rw [← hX]; exact List.getElem_mem hkl
      have HX := HFF.out wr hB X hXm
      cases he : P X
      · have HST : Hid (∀ j (hj : j < l.length), j < k + 1 → P l[j] = false) := fun j hj hjk => by
          by_cases e : j = k
          · subst e; rw [hX, he]
          · exact hv.out j hj (by omega)
        rw [he] at HX
        have HX := Lib.hid HX
        clear hX hXm he hv
        obtain ⟨x0, x1, x2, x3⟩ := X
        try simp only at d0 d1 d2 d3 HX
        go_wp2_with fail
        refine HX.out.mono ?_; rintro e w1 ⟨rfl, b1⟩
        have hB2 := hB.trans (b1.mono hB.size)
        go_wp2_with fail
        exact ⟨⟨k + 1, by omega, by go_num, HST, hB2⟩, by simp [intOf]; omega⟩
      · have HR : Hid (l.any P = true) := List.any_eq_true.2 ⟨X, hXm, he⟩
        rw [he] at HX
        have HX := Lib.hid HX
        clear hX hXm he hv
        obtain ⟨x0, x1, x2, x3⟩ := X
        try simp only at d0 d1 d2 d3 HX
        go_wp2_with fail
        refine HX.out.mono ?_; rintro e w1 ⟨rfl, b1⟩
        have hB2 := hB.trans (b1.mono hB.size)
        go_wp2_with fail
        go_ret
        exact ⟨⟨_, rfl, by rw [HR.out]; exact decide_eq_true (by omega)⟩, hB2⟩
    · obtain rfl : k = n := by omega
      have HR : Hid (l.any P = false) := by
        show l.any P = false
        rw [Bool.eq_false_iff]
        intro h
        obtain ⟨x, hx, hd⟩ := List.any_eq_true.1 h
        obtain ⟨j, hj, rfl⟩ := List.mem_iff_getElem.1 hx
        rw [hv.out j hj (by rw [HN.out] at hj; exact hj)] at hd
        cases hd
      clear hv
      go_wp2_with fail
      go_ret
      exact ⟨⟨_, rfl, by rw [HR.out]; decide⟩, hB⟩
theorem con_k3 (ao : Option Addr) (c n : Nat) (l : List TmR) (P : TmR → Bool) (p : Nat) (w : World) (hl : TSl w ao l) (hn : l.length = n) (h1 : n ≤ maxLen) (HF : ∀ wr, Below w.heap.size w wr → ∀ x ∈ l, Calls Tryz.prog 131 #[.agg #[.string x.1, .int .i64 x.2.1, .bool x.2.2.1, .string x.2.2.2], .pointer (some ⟨p, 0, none⟩)] wr fun e w' => e = .returned (.bool (P x)) ∧ Below wr.heap.size wr w') :
    Calls Tryz.prog 124 #[.slice ao n c, .func (.func 131) #[] #[.pointer (some ⟨p, 0, none⟩)]] w fun e w' => e = .returned (.bool (l.any P)) ∧ Below w.heap.size w w' := by
  have H := Lib.hid (idx_k3 ao c n l P p w hl hn h1 HF)
  obtain ⟨V, hV⟩ : ∃ V, l.any P = V := ⟨_, rfl⟩
  rw [hV] at H ⊢
  clear hl hn h1 HF hV
  go_enter Tryz.func124, Tryz.ntmps124
  go_wp2_with fail
  refine H.out.mono ?_; rintro e w1 ⟨⟨x, rfl, hx⟩, b1⟩
  have HX := Lib.hid hx
  clear hx
  go_wp2_with fail
  go_ret
  exact ⟨ret_bool HX.out, b1⟩
theorem idx_rd (ao : Option Addr) (c n : Nat) (l : List (Bool × ByteArray)) (P : (Bool × ByteArray) → Bool) (w : World) (hl : IS w ao l) (hn : l.length = n) (h1 : n ≤ maxLen) (HF : ∀ wr, Below w.heap.size w wr → ∀ x ∈ l, Calls Tryz.prog 78 #[.agg #[.bool x.1, .string x.2]] wr fun e w' => e = .returned (.bool (P x)) ∧ Below wr.heap.size wr w') :
    Calls Tryz.prog 104 #[.slice ao n c, .func (.func 78) #[] #[]] w fun e w' => (∃ x : Int, e = .returned (.int .i64 x) ∧ (decide (0 ≤ x) = l.any P)) ∧ Below w.heap.size w w' := by
  unfold maxLen at h1
  have HN := Lib.hid hn
  have HFF := Lib.hid HF
  have HL := Lib.hid hl
  clear hn hl HF
  go_enter Tryz.func104, Tryz.ntmps104
  go_wp2_with fail
  go_loopw [8] (fun v8 wr => ∃ k : Nat, k ≤ n ∧ v8 = .int .i64 k ∧ Hid (∀ j (hj : j < l.length), j < k → P l[j] = false) ∧ Below w.heap.size w wr) (fun v8 _ => n - (intOf v8).toNat)
  case atStart => exact ⟨0, by omega, rfl, fun j _ h => by omega, Below.refl _ _⟩
  case round =>
    obtain ⟨k, hk, rfl, hv, hB⟩ := hrel
    by_cases hlt : k < n
    · have hkl : k < l.length := by rw [HN.out]; exact hlt
      obtain ⟨b, off, rfl, d0, d1⟩ := (HL.out.keepL (cells_keepL hB (Nat.le_refl _))) k hkl
      obtain ⟨X, hX⟩ : ∃ X, l[k] = X := ⟨_, rfl⟩
      rw [hX] at d0 d1
      have hXm : X ∈ l := by rw [← hX]; exact List.getElem_mem hkl
      have HX := HFF.out wr hB X hXm
      cases he : P X
      · have HST : Hid (∀ j (hj : j < l.length), j < k + 1 → P l[j] = false) := fun j hj hjk => by
          by_cases e : j = k
          · subst e; rw [hX, he]
          · exact hv.out j hj (by omega)
        rw [he] at HX
        have HX := Lib.hid HX
        clear hX hXm he hv
        obtain ⟨x0, x1⟩ := X
        try simp only at d0 d1 HX
        go_wp2_with fail
        refine HX.out.mono ?_; rintro e w1 ⟨rfl, b1⟩
        have hB2 := hB.trans (b1.mono hB.size)
        go_wp2_with fail
        exact ⟨⟨k + 1, by omega, by go_num, HST, hB2⟩, by simp [intOf]; omega⟩
      · have HR : Hid (l.any P = true) := List.any_eq_true.2 ⟨X, hXm, he⟩
        rw [he] at HX
        have HX := Lib.hid HX
        clear hX hXm he hv
        obtain ⟨x0, x1⟩ := X
        try simp only at d0 d1 HX
        go_wp2_with fail
        refine HX.out.mono ?_; rintro e w1 ⟨rfl, b1⟩
        have hB2 := hB.trans (b1.mono hB.size)
        go_wp2_with fail
        go_ret
        exact ⟨⟨_, rfl, by rw [HR.out]; exact decide_eq_true (by omega)⟩, hB2⟩
    · obtain rfl : k = n := by omega
      have HR : Hid (l.any P = false) := by
        show l.any P = false
        rw [Bool.eq_false_iff]
        intro h
        obtain ⟨x, hx, hd⟩ := List.any_eq_true.1 h
        obtain ⟨j, hj, rfl⟩ := List.mem_iff_getElem.1 hx
        rw [hv.out j hj (by rw [HN.out] at hj; exact hj)] at hd
        cases hd
      clear hv
      go_wp2_with fail
      go_ret
      exact ⟨⟨_, rfl, by rw [HR.out]; decide⟩, hB⟩
theorem con_rd (ao : Option Addr) (c n : Nat) (l : List (Bool × ByteArray)) (P : (Bool × ByteArray) → Bool) (w : World) (hl : IS w ao l) (hn : l.length = n) (h1 : n ≤ maxLen) (HF : ∀ wr, Below w.heap.size w wr → ∀ x ∈ l, Calls Tryz.prog 78 #[.agg #[.bool x.1, .string x.2]] wr fun e w' => e = .returned (.bool (P x)) ∧ Below wr.heap.size wr w') :
    Calls Tryz.prog 77 #[.slice ao n c, .func (.func 78) #[] #[]] w fun e w' => e = .returned (.bool (l.any P)) ∧ Below w.heap.size w w' := by
  have H := Lib.hid (idx_rd ao c n l P w hl hn h1 HF)
  obtain ⟨V, hV⟩ : ∃ V, l.any P = V := ⟨_, rfl⟩
  rw [hV] at H ⊢
  clear hl hn h1 HF hV
  go_enter Tryz.func77, Tryz.ntmps77
  go_wp2_with fail
  refine H.out.mono ?_; rintro e w1 ⟨⟨x, rfl, hx⟩, b1⟩
  have HX := Lib.hid hx
  clear hx
  go_wp2_with fail
  go_ret
  exact ⟨ret_bool HX.out, b1⟩
end Go.Proofs.YtdlbnioidfhhcaaGreat

/- linear: sizes, order, elements. -/
namespace Go.Proofs.YtdlbnioidfhhcaaGreat
open Go.RowKit Num
set_option maxRecDepth 20000
set_option linter.unusedVariables false
theorem manyB_pl (S : StM) : manyB S.pl = (decide (8 < S.G.length) || (decide (64 < S.V.length) || (decide (64 < S.Q.length) || S.Q.any (fun q => lgQ (eqp q))))) := by
  unfold manyB StM.pl
  simp only [List.any_map, List.length_map]
  rfl
theorem elB_pl (S : StM) : elB S.pl = (S.G.all ckG && S.Q.all (fun q => elQ S.pl (eqp q))) := by
  unfold elB StM.pl
  simp only [List.all_map]
  rfl
theorem typB_pl (S : StM) : typB S.pl = (!S.V.any emB || (!emB (ordL S.G) && (S.G.all (tyG (ordL S.G)) && S.Q.all (fun q => tyQ S.pl (eqp q))))) := by
  unfold typB
  have e : S.pl.Q.all (tyQ S.pl) = S.Q.all (fun q => tyQ S.pl (eqp q)) := by rw [StM.pl_Q, List.all_map]; rfl
  rw [e]; rfl
/-- the empty string or not -/
theorem em_cases (s : ByteArray) : (emB s = true ∧ s = ⟨#[]⟩) ∨ (emB s = false ∧ (s.toList = [] → False) ∧ s.toList.isEmpty = false) := by
  by_cases h0 : s.size = 0
  · refine .inl ?_
    obtain rfl : s = ⟨#[]⟩ := by cases s with | mk d => simp [ByteArray.size] at h0; simp [h0]
    exact ⟨by decide +kernel, rfl⟩
  · obtain ⟨n1, n2⟩ := tl_ne h0
    exact .inr ⟨n2, n1, n2⟩
theorem fn_sz (x : EqR) (w : World) (h : x.2.2.2.2.length ≤ maxLen) : Calls Tryz.prog 123 #[.agg #[.int .i64 x.1, .string x.2.1, .slice x.2.2.1 x.2.2.2.2.length x.2.2.2.1]] w fun e w' => e = .returned (.bool (lgQ (eqp x))) ∧ Below w.heap.size w w' := by
  obtain ⟨i, T, ta, tc, L⟩ := x
  simp only [lgQ, eqp] at h ⊢
  obtain ⟨n, hn⟩ : ∃ n, L.length = n := ⟨_, rfl⟩
  simp only [hn] at h ⊢
  unfold maxLen at h
  have c2 := (QB.new w i T (.slice ta n tc)).c2
  have hb := (Below.refl _ w).alloc (Nat.le_refl _) (.cells #[.int .i64 i, .string T, .slice ta n tc] 68)
  clear hn
  go_enter Tryz.func123, Tryz.ntmps123
  go_wp2_with fail
  go_ret
  exact ⟨ret_bool (decide_eq_decide.2 (by omega)), hb⟩
set_option maxHeartbeats 4000000 in
theorem sizes_any (a : StA) (S : StM) (w : World) (hS : SS w a S) (hok : S.ok) :
    Calls Tryz.prog 105 #[.agg #[.slice a.ga S.G.length a.gc, .slice a.va S.V.length a.vc, .slice a.qa S.Q.length a.qc]] w fun e w' => e = .returned (.int .i64 (if manyB S.pl = true then 6 else 0)) ∧ Below w.heap.size w w' := by
  rw [manyB_pl]
  have hb := (Below.refl _ w).alloc (Nat.le_refl _) (.cells #[.slice a.ga S.G.length a.gc, .slice a.va S.V.length a.vc, .slice a.qa S.Q.length a.qc] 42)
  have hX := SXB.new w a S
  have hS0 := hS.below hb (Nat.le_refl _)
  obtain ⟨ga, gc, va, vc, qa, qc⟩ := a
  obtain ⟨G, W, Q⟩ := S
  simp only at hb hX hS0 ⊢
  have hX0 := hX.c0
  have hX1 := hX.c1
  have hX2 := hX.c2
  have HQ := Lib.hid hS0.q
  have l1 : G.length ≤ maxLen := hok.gl
  have l2 : W.length ≤ maxLen := hok.vl
  have l3 : Q.length ≤ maxLen := hok.ql
  have l4 : Hid (∀ q ∈ Q, q.2.2.2.2.length ≤ maxLen) := fun q hq => (hok.q q hq).2.2.1
  simp only at hX0 hX1 hX2 HQ
  unfold maxLen at l1 l2 l3
  clear hS hS0 hok hX
  obtain ⟨ng, hng⟩ : ∃ n, G.length = n := ⟨_, rfl⟩
  obtain ⟨nw, hnv⟩ : ∃ n, W.length = n := ⟨_, rfl⟩
  obtain ⟨nq, hnq⟩ : ∃ n, Q.length = n := ⟨_, rfl⟩
  simp only [hng, hnv, hnq] at hb hX0 hX1 hX2 l1 l2 l3 HQ ⊢
  have HNQ := Lib.hid hnq
  clear hng hnv hnq
  by_cases t1 : 8 < ng
  · have e1 : decide ((8 : Int) < (ng : Int)) = true := decide_eq_true (by omega)
    have e1' : (8 : Int) < (ng : Int) := by omega
    rw [decide_eq_true t1]
    go_enter Tryz.func105, Tryz.ntmps105
    go_wp2_with fail
    go_ret
    exact ⟨rfl, hb⟩
  have e1 : decide ((8 : Int) < (ng : Int)) = false := decide_eq_false (by omega)
  have e1' : ¬ (8 : Int) < (ng : Int) := by omega
  rw [decide_eq_false t1, Bool.false_or]
  by_cases t2 : 64 < nw
  · have e2 : decide ((64 : Int) < (nw : Int)) = true := decide_eq_true (by omega)
    have e2' : (64 : Int) < (nw : Int) := by omega
    rw [decide_eq_true t2]
    go_enter Tryz.func105, Tryz.ntmps105
    go_wp2_with fail
    go_ret
    exact ⟨rfl, hb⟩
  have e2 : decide ((64 : Int) < (nw : Int)) = false := decide_eq_false (by omega)
  have e2' : ¬ (64 : Int) < (nw : Int) := by omega
  rw [decide_eq_false t2, Bool.false_or]
  by_cases t3 : 64 < nq
  · have e3 : decide ((64 : Int) < (nq : Int)) = true := decide_eq_true (by omega)
    have e3' : (64 : Int) < (nq : Int) := by omega
    rw [decide_eq_true t3]
    go_enter Tryz.func105, Tryz.ntmps105
    go_wp2_with fail
    go_ret
    exact ⟨rfl, hb⟩
  have e3 : decide ((64 : Int) < (nq : Int)) = false := decide_eq_false (by omega)
  have e3' : ¬ (64 : Int) < (nq : Int) := by omega
  rw [decide_eq_false t3, Bool.false_or]
  obtain ⟨V, hV⟩ : ∃ V, Q.any (fun q => lgQ (eqp q)) = V := ⟨_, rfl⟩
  have HC := Lib.hid (con_sz qa qc nq Q (fun q => lgQ (eqp q)) (w.alloc (.cells #[.slice ga ng gc, .slice va nw vc, .slice qa nq qc] 42)) HQ.out HNQ.out (by unfold maxLen; omega) (fun wr _ x hx => fn_sz x wr (l4.out x hx)))
  rw [hV] at HC ⊢
  clear hV HQ HNQ l4
  cases V
  all_goals
    go_enter Tryz.func105, Tryz.ntmps105
    go_wp2_with fail
    refine HC.out.mono ?_; rintro e w1 ⟨rfl, b1⟩
    have hb2 := hb.trans (b1.mono hb.size)
    go_wp2_with fail
    go_ret
    exact ⟨rfl, hb2⟩
theorem order_any (a : StA) (S : StM) (w : World) (hS : SS w a S) (hok : S.ok) :
    Calls Tryz.prog 128 #[.agg #[.slice a.ga S.G.length a.gc, .slice a.va S.V.length a.vc, .slice a.qa S.Q.length a.qc]] w fun e w' => e = .returned (.string (ordL S.G)) ∧ Below w.heap.size w w' := by
  have hb := (Below.refl _ w).alloc (Nat.le_refl _) (.cells #[.slice a.ga S.G.length a.gc, .slice a.va S.V.length a.vc, .slice a.qa S.Q.length a.qc] 42)
  have hX := SXB.new w a S
  have hS0 := hS.below hb (Nat.le_refl _)
  obtain ⟨ga, gc, va, vc, qa, qc⟩ := a
  obtain ⟨G, W, Q⟩ := S
  simp only at hb hX hS0 ⊢
  have hX0 := hX.c0
  have HG := Lib.hid hS0.g
  have l1 : G.length ≤ maxLen := hok.gl
  simp only at hX0 HG
  unfold maxLen at l1
  clear hS hS0 hok hX
  obtain ⟨ng, hng⟩ : ∃ n, G.length = n := ⟨_, rfl⟩
  simp only [hng] at hb hX0 l1 HG ⊢
  have HNG := Lib.hid hng
  obtain ⟨R, hR⟩ : ∃ R, ordL G = R := ⟨_, rfl⟩
  rw [hR]
  have H0 : Hid (ordL (G.drop 0) = R) := hR
  clear hng hR
  go_enter Tryz.func128, Tryz.ntmps128
  go_wp2_with fail
  generalize World.alloc _ _ = w0 at hb hX0 HG ⊢
  go_wp2_with fail
  go_loopw [8] (fun v8 wr => ∃ k : Nat, k ≤ ng ∧ v8 = .int .i64 (k : Int) ∧ Hid (ordL (G.drop k) = R) ∧ Below w0.heap.size w0 wr) (fun v8 _ => ng - (intOf v8).toNat)
  case atStart => exact ⟨0, by omega, rfl, H0, Below.refl _ _⟩
  case round =>
    clear H0
    obtain ⟨k, hk, rfl, hP, hB⟩ := hrel
    have hbw := hb.trans (hB.mono hb.size)
    have d0 := cells_keepL hB (Nat.le_refl _) _ _ hX0
    by_cases hlt : k < ng
    · have hkG : k < G.length := by rw [HNG.out]; exact hlt
      obtain ⟨b, off, rfl, e0, e1⟩ := (HG.out.keep (cells_keepL hB (Nat.le_refl _))) k hkG
      have hw := hP.out
      rw [List.drop_eq_getElem_cons hkG] at hw
      generalize G[k] = x at e0 e1 hw
      obtain ⟨M, O⟩ := x
      simp only [ordL] at e0 e1 hw
      have hN := GB.new wr M O
      have hbN := (Below.refl _ wr).alloc (Nat.le_refl _) (.cells #[.string M, .string O] 26)
      have hbe := hbw.trans (hbN.mono hbw.size)
      have hB2 := hB.trans (hbN.mono hB.size)
      have n0 := hN.c0
      have n1 := hN.c1
      clear hN hP hkG hB hbw
      rcases em_cases O with ⟨h1, rfl⟩ | ⟨h1, h2, h3⟩
      · rw [if_pos h1] at hw
        have HW := Lib.hid hw
        clear hw h1
        go_wp2_with fail
        exact ⟨⟨k + 1, by omega, by go_num, HW, hB2⟩, by simp [intOf]; omega⟩
      · rw [if_neg (by rw [h1]; decide)] at hw
        have HW := Lib.hid hw
        clear hw h1
        go_wp2_with fail
        go_ret
        exact ⟨by rw [HW.out]; rfl, hbe⟩
    · obtain rfl : k = ng := by omega
      have hw := hP.out
      rw [List.drop_of_length_le (by rw [HNG.out]; omega)] at hw
      have HW := Lib.hid hw
      clear hP hw
      go_wp2_with fail
      go_ret
      exact ⟨by rw [← HW.out]; rfl, hbw⟩
theorem fn_el (M O : ByteArray) (p : Nat) (x : TmR) (w : World) (hG : GB w p M O) : Calls Tryz.prog 125 #[.agg #[.string x.1, .int .i64 x.2.1, .bool x.2.2.1, .string x.2.2.2], .pointer (some ⟨p, 0, none⟩)] w fun e w' => e = .returned (.bool (!elT (M, O) x)) ∧ Below w.heap.size w w' := by
  obtain ⟨s, i, g, E⟩ := x
  simp only [elT]
  have hb := (Below.refl _ w).alloc (Nat.le_refl _) (.cells #[.string s, .int .i64 i, .bool g, .string E] 94)
  have c0 := (TmB.new w s i g E).c0
  have hG2 := hG.below hb hG.lt
  have g0 := hG2.c0
  have g1 := hG2.c1
  clear hG hG2
  go_enter Tryz.func125, Tryz.ntmps125
  go_wp2_with fail
  refine (gHas_any M O s _).mono ?_; rintro e w1 ⟨rfl, b1⟩
  have hb2 := hb.trans (b1.mono hb.size)
  go_wp2_with fail
  go_ret
  exact ⟨rfl, hb2⟩
theorem grp_at {G : List (ByteArray × ByteArray)} {j : Nat} (h : j < G.length) : G.getD j (⟨#[]⟩, ⟨#[]⟩) = G[j] := by simp [List.getD_eq_getElem?_getD, h]
set_option maxHeartbeats 8000000 in
theorem elements_any (a : StA) (S : StM) (w : World) (hS : SS w a S) (hok : S.ok) (hf : formB S.pl = true) :
    Calls Tryz.prog 106 #[.agg #[.slice a.ga S.G.length a.gc, .slice a.va S.V.length a.vc, .slice a.qa S.Q.length a.qc]] w fun e w' => e = .returned (.int .i64 (if elB S.pl = true then 0 else 13)) ∧ Below w.heap.size w w' := by
  have HF : Hid (∀ q ∈ S.Q, ∃ j : Nat, q.1 = (j : Int) ∧ j < S.G.length ∧ grpS S.pl (eqp q) = S.G.getD j (⟨#[]⟩, ⟨#[]⟩)) := fun q hq => by
    obtain ⟨h1, h2, _⟩ := form_q hf (q := eqp q) (by rw [StM.pl_Q]; exact List.mem_map_of_mem hq)
    exact ⟨q.1.toNat, by have : 0 ≤ q.1 := h1; omega, h2, rfl⟩
  rw [elB_pl]
  obtain ⟨EQ, hEQ⟩ : ∃ E, (fun q => elQ S.pl (eqp q)) = E := ⟨_, rfl⟩
  have HE : Hid (∀ q, EQ q = (hasB (grpS S.pl (eqp q)).1 (grpS S.pl (eqp q)).2 q.2.1 && q.2.2.2.2.all (elT (grpS S.pl (eqp q))))) := fun q => by rw [← hEQ]; rfl
  obtain ⟨GS, hGS⟩ : ∃ E, (fun q => grpS S.pl (eqp q)) = E := ⟨_, rfl⟩
  have hgs : ∀ q, grpS S.pl (eqp q) = GS q := fun q => by rw [← hGS]
  simp only [hgs] at HE HF
  rw [hEQ]
  clear hEQ hGS hgs hf
  have hb := (Below.refl _ w).alloc (Nat.le_refl _) (.cells #[.slice a.ga S.G.length a.gc, .slice a.va S.V.length a.vc, .slice a.qa S.Q.length a.qc] 42)
  have hX := SXB.new w a S
  have hS0 := hS.below hb (Nat.le_refl _)
  obtain ⟨ga, gc, va, vc, qa, qc⟩ := a
  obtain ⟨G, W, Q⟩ := S
  simp only at hb hX hS0 HF HE ⊢
  have HG := Lib.hid hS0.g
  have HQ := Lib.hid hS0.q
  have hX0 := hX.c0
  have hX2 := hX.c2
  have l1 : G.length ≤ maxLen := hok.gl
  have l3 : Q.length ≤ maxLen := hok.ql
  have l4 : Hid (∀ q ∈ Q, q.2.2.2.2.length ≤ maxLen) := fun q hq => (hok.q q hq).2.2.1
  simp only at HG HQ hX0 hX2
  unfold maxLen at l1 l3
  clear hS hS0 hok
  obtain ⟨ng, hng⟩ : ∃ n, G.length = n := ⟨_, rfl⟩
  obtain ⟨nq, hnq⟩ : ∃ n, Q.length = n := ⟨_, rfl⟩
  simp only [hng, hnq] at hb hX0 hX2 l1 l3 HG HQ HF ⊢
  have HNG := Lib.hid hng
  have HNQ := Lib.hid hnq
  obtain ⟨R1, hR1⟩ : ∃ R, Q.all EQ = R := ⟨_, rfl⟩
  rw [hR1]
  obtain ⟨V, hV⟩ : ∃ V, (G.all ckG && R1) = V := ⟨_, rfl⟩
  rw [hV]
  have H0 : Hid (((G.drop 0).all ckG && R1) = V) := hV
  have H1 : Hid ((Q.drop 0).all EQ = R1) := hR1
  clear hng hnq hR1 hV hX
  go_enter Tryz.func106, Tryz.ntmps106
  go_wp2_with fail
  generalize World.alloc _ _ = w0 at hb hX0 hX2 HG HQ ⊢
  go_wp2_with fail
  go_loopw [11] (fun v11 wr => ∃ k : Nat, k ≤ ng ∧ v11 = .int .i64 (k : Int) ∧ Hid (((G.drop k).all ckG && R1) = V) ∧ Below w0.heap.size w0 wr) (fun v11 _ => ng - (intOf v11).toNat)
  case atStart => exact ⟨0, by omega, rfl, H0, Below.refl _ _⟩
  case round =>
    clear H0
    obtain ⟨k, hk, rfl, hP, hB⟩ := hrel
    have hbw := hb.trans (hB.mono hb.size)
    have d0 := cells_keepL hB (Nat.le_refl _) _ _ hX0
    have d2 := cells_keepL hB (Nat.le_refl _) _ _ hX2
    by_cases hlt : k < ng
    · have hkG : k < G.length := by rw [HNG.out]; exact hlt
      obtain ⟨b, off, rfl, e0, e1⟩ := (HG.out.keep (cells_keepL hB (Nat.le_refl _))) k hkG
      have hw := hP.out
      rw [List.drop_eq_getElem_cons hkG, List.all_cons] at hw
      generalize G[k] = x at e0 e1 hw
      obtain ⟨M, O⟩ := x
      simp only [ckG] at e0 e1 hw
      have hN := GB.new wr M O
      have hbN := (Below.refl _ wr).alloc (Nat.le_refl _) (.cells #[.string M, .string O] 26)
      have hbe := hbw.trans (hbN.mono hbw.size)
      have hB2 := hB.trans (hbN.mono hB.size)
      have n0 := hN.c0
      have n1 := hN.c1
      have HC := fun w => gCheck_any M O w
      clear hN hP hkG hB hbw
      obtain ⟨E, hE⟩ : ∃ E, gE M O = E := ⟨_, rfl⟩
      simp only [hE] at hw HC
      clear hE
      by_cases hE0 : E = 0
      · subst hE0
        rw [decide_eq_true rfl, Bool.true_and] at hw
        have HW := Lib.hid hw
        have HC := Lib.hid HC
        clear hw
        go_wp2_with fail
        refine (HC.out _).mono ?_; rintro e w1 ⟨rfl, b1⟩
        have hB3 := hB2.trans (b1.mono hB2.size)
        go_wp2_with fail
        exact ⟨⟨k + 1, by omega, by go_num, HW, hB3⟩, by simp [intOf]; omega⟩
      · rw [decide_eq_false hE0] at hw
        obtain rfl : V = false := by rw [← hw]; rfl
        have hE1 : (E == 0) = false := by rw [beq_eq_false_iff_ne]; exact hE0
        have hE2 : (E != 0) = true := by rw [bne_iff_ne]; exact hE0
        have HC := Lib.hid HC
        clear hw
        go_wp2_with fail
        refine (HC.out _).mono ?_; rintro e w1 ⟨rfl, b1⟩
        have hbf := hbe.trans (b1.mono hbe.size)
        go_wp2_with fail
        go_ret
        exact ⟨rfl, hbf⟩
    · obtain rfl : ng = k := by omega
      have hw := hP.out
      rw [List.drop_of_length_le (by rw [HNG.out]; omega)] at hw
      obtain rfl : R1 = V := hw
      have HQ2 := Lib.hid (HQ.out.keep (cells_keepL hB (Nat.le_refl _)))
      have HG2 := Lib.hid (HG.out.keep (cells_keepL hB (Nat.le_refl _)))
      clear hP hX0 hX2 HQ hb hB HG
      go_wp2_with fail
      obtain ⟨wo1, rfl⟩ : ∃ wo : World, wo = wr := ⟨_, rfl⟩
      go_loopw [22] (fun v22 wq => ∃ k : Nat, k ≤ nq ∧ v22 = .int .i64 (k : Int) ∧ Hid ((Q.drop k).all EQ = R1) ∧ Below wo1.heap.size wo1 wq) (fun v22 _ => nq - (intOf v22).toNat)
      case atStart => exact ⟨0, by omega, rfl, H1, Below.refl _ _⟩
      case round =>
        clear H1
        obtain ⟨h, hh, rfl, hP, hB⟩ := hrel
        have hbe := hbw.trans (hB.mono hbw.size)
        have x0 := cells_keepL hB (Nat.le_refl _) _ _ d0
        have x2 := cells_keepL hB (Nat.le_refl _) _ _ d2
        by_cases hlt : h < nq
        · have hkQ : h < Q.length := by rw [HNQ.out]; exact hlt
          have hlx := l4.out _ (List.getElem_mem hkQ)
          obtain ⟨j, hj1, hj2, hj3⟩ := HF.out _ (List.getElem_mem hkQ)
          obtain ⟨b, off, rfl, e0, e1, e2, hT⟩ := (HQ2.out.keep (cells_keepL hB (Nat.le_refl _))) h hkQ
          have hw := hP.out
          rw [List.drop_eq_getElem_cons hkQ, List.all_cons, HE.out, hj3] at hw
          generalize Q[h] = x at e0 e1 e2 hT hlx hw hj1
          obtain ⟨i, T, ta, tc, L⟩ := x
          simp only at e0 e1 e2 hT hlx hw hj1
          subst hj1
          have hjG : j < G.length := by rw [HNG.out]; exact hj2
          obtain ⟨b2, off2, rfl, f0, f1⟩ := (HG2.out.keep (cells_keepL hB (Nat.le_refl _))) j hjG
          rw [grp_at hjG] at hw
          generalize G[j] = x at f0 f1 hw
          obtain ⟨M, O⟩ := x
          simp only at f0 f1 hw
          obtain ⟨nt, hnt⟩ : ∃ n, L.length = n := ⟨_, rfl⟩
          rw [hnt] at e2 hlx
          have HNT := Lib.hid hnt
          have hbN := (Below.refl _ wr).alloc (Nat.le_refl _) (.cells #[.int .i64 (j : Int), .string T, .slice ta nt tc] 68)
          have hN := QB.new wr (j : Int) T (.slice ta nt tc)
          have hbf := hbe.trans (hbN.mono hbe.size)
          have hB2 := hB.trans (hbN.mono hB.size)
          have n0 := hN.c0
          have y0 := cells_keepL hbN (Nat.le_refl _) _ _ x0
          have f0 := cells_keepL hbN (Nat.le_refl _) _ _ f0
          have f1 := cells_keepL hbN (Nat.le_refl _) _ _ f1
          have HT := Lib.hid (hT.keep (cells_keepL hbN (Nat.le_refl _)))
          clear hP hj3 hkQ hB hbe hT x0 hnt hjG d0
          go_wp2_with fail
          have hz : (wr.alloc (.cells #[.int .i64 (j : Int), .string T, .slice ta nt tc] 68)).heap.size = wr.heap.size + 1 := by simp
          generalize hw3 : World.alloc wr _ = w3 at hbN hN hbf hB2 n0 y0 f0 f1 HT hz ⊢
          clear hw3
          go_wp2_with fail
          have hG := GB.new w3 M O
          have hbM := (Below.refl _ w3).alloc (Nat.le_refl _) (.cells #[.string M, .string O] 26)
          have hN4 := hN.below hbM hN.lt
          have hbg := hbf.trans (hbM.mono hbf.size)
          have hB3 := hB2.trans (hbM.mono hB2.size)
          have g0 := hG.c0
          have g1 := hG.c1
          have n1 := hN4.c1
          have n2 := hN4.c2
          have hwr := hN.lt
          have HT4 := Lib.hid (HT.out.keep (cells_keepL hbM (Nat.le_refl _)))
          clear hN HT hbf hB2 hbN n0 y0 f0 f1
          rw [hz] at hG hbM g0 g1
          generalize hw4 : World.alloc w3 _ = w4 at hG hbM hN4 hbg hB3 g0 g1 n1 n2 HT4 ⊢
          clear hw4 hbM
          cases hH : hasB M O T
          · rw [hH] at hw
            obtain rfl : R1 = false := by rw [← hw]; rfl
            have HH := Lib.hid hH
            clear hH hw
            go_wp2_with fail
            refine (gHas_any M O T _).mono ?_; rw [HH.out]; rintro e w5 ⟨rfl, b5⟩
            have hbh := hbg.trans (b5.mono hbg.size)
            go_wp2_with fail
            go_ret
            exact ⟨rfl, hbh⟩
          · rw [hH, Bool.true_and] at hw
            have HH := Lib.hid hH
            clear hH
            have hal : (L.any fun t => !elT (M, O) t) = !L.all (elT (M, O)) := List.not_all_eq_any_not.symm
            obtain ⟨B, hB0⟩ : ∃ B, L.all (elT (M, O)) = B := ⟨_, rfl⟩
            rw [hB0] at hal hw
            have HAL := Lib.hid hal
            have HW := Lib.hid hw
            clear hal hw hB0
            go_wp2_with fail
            refine (gHas_any M O T _).mono ?_; rw [HH.out]; rintro e w5 ⟨rfl, b5⟩
            have hbh := hbg.trans (b5.mono hbg.size)
            have hB4 := hB3.trans (b5.mono hB3.size)
            have hG5 := hG.below b5 hG.lt
            have n3 := cells_keepL b5 (Nat.le_refl _) _ _ n2
            have HT5 := Lib.hid (HT4.out.keep (cells_keepL b5 (Nat.le_refl _)))
            have HC := Lib.hid (con_el ta tc nt L (fun t => !elT (M, O) t) (wr.heap.size + 1) w5 HT5.out HNT.out hlx (fun wr' hb x _ => fn_el M O (wr.heap.size + 1) x wr' (hG5.below hb hG5.lt)))
            rw [HAL.out] at HC
            clear hG hbg hB3 hG5 HT4 HT5 b5 HAL HH n1 n2 hN4 g0 g1
            cases B
            · obtain rfl : R1 = false := by rw [← HW.out]; rfl
              go_wp2_with fail
              refine HC.out.mono ?_; rintro e w6 ⟨rfl, b6⟩
              have hbi := hbh.trans (b6.mono hbh.size)
              go_wp2_with fail
              go_ret
              exact ⟨rfl, hbi⟩
            · have HW2 : Hid ((Q.drop (h + 1)).all EQ = R1) := by have := HW.out; rwa [Bool.true_and] at this
              go_wp2_with fail
              refine HC.out.mono ?_; rintro e w6 ⟨rfl, b6⟩
              have hB5 := hB4.trans (b6.mono hB4.size)
              go_wp2_with fail
              exact ⟨⟨h + 1, by omega, by go_num, HW2, hB5⟩, by simp [intOf]; omega⟩
        · obtain rfl : nq = h := by omega
          have hw := hP.out
          rw [List.drop_of_length_le (by rw [HNQ.out]; omega)] at hw
          obtain rfl : true = R1 := hw
          clear hP
          go_wp2_with fail
          go_ret
          exact ⟨rfl, hbe⟩
end Go.Proofs.YtdlbnioidfhhcaaGreat

/- linear: kinds, Check, ready. -/
namespace Go.Proofs.YtdlbnioidfhhcaaGreat
open Go.RowKit Num
set_option maxRecDepth 20000
set_option linter.unusedVariables false
theorem fn_k1 (x : ByteArray) (w : World) : Calls Tryz.prog 127 #[.agg #[.string x]] w fun e w' => e = .returned (.bool (emB x)) ∧ Below w.heap.size w w' := by
  have c0 := (VrB.new w x).c0
  have hb := (Below.refl _ w).alloc (Nat.le_refl _) (.cells #[.string x] 77)
  rcases em_cases x with ⟨h1, rfl⟩ | ⟨h1, h2, h3⟩
  all_goals
    have H1 := Lib.hid h1
    clear h1
    go_enter Tryz.func127, Tryz.ntmps127
    go_wp2_with fail
    go_ret
    exact ⟨ret_bool (by rw [H1.out]), hb⟩
theorem fn_k2 (o : ByteArray) (p : Nat) (x : ByteArray × ByteArray) (w : World) (hS : SB w p o) : Calls Tryz.prog 130 #[.agg #[.string x.1, .string x.2], .pointer (some ⟨p, 0, none⟩)] w fun e w' => e = .returned (.bool (!tyG o x)) ∧ Below w.heap.size w w' := by
  obtain ⟨M, O⟩ := x
  simp only [tyG]
  have hN := GB.new w M O
  have c0 := hN.c0
  have c1 := hN.c1
  have hb := (Below.refl _ w).alloc (Nat.le_refl _) (.cells #[.string M, .string O] 26)
  have s0 := (hS.below hb hS.lt).c
  clear hS hN
  rcases em_cases O with ⟨h1, rfl⟩ | ⟨h1, h2, h3⟩
  · have H1 := Lib.hid h1
    clear h1
    go_enter Tryz.func130, Tryz.ntmps130
    go_wp2_with fail
    go_ret
    exact ⟨ret_bool (by rw [H1.out]; rfl), hb⟩
  · have H1 := Lib.hid h1
    clear h1
    by_cases he : O = o
    · subst he
      go_enter Tryz.func130, Tryz.ntmps130
      go_wp2_with fail
      go_ret
      exact ⟨ret_bool (by rw [H1.out]; simp), hb⟩
    · have q1 : (O.toList == o.toList) = false := by
        rw [beq_eq_false_iff_ne]
        intro h
        exact he (by cases O with | mk x => cases o with | mk y => simp only [ByteArray.toList_eq] at h; have := Array.toList_inj.1 h; subst this; rfl)
      have q2 : ¬ O.toList = o.toList := by rw [beq_eq_false_iff_ne] at q1; exact q1
      have Q1 := Lib.hid q1
      go_enter Tryz.func130, Tryz.ntmps130
      go_wp2_with fail
      go_ret
      exact ⟨ret_bool (by rw [H1.out, Q1.out]; rfl), hb⟩
theorem var_at {V : List ByteArray} {j : Nat} (h : j < V.length) : V.getD j ⟨#[]⟩ = V[j] := by simp [List.getD_eq_getElem?_getD, h]
theorem fn_k3 (a : StA) (S : StM) (p : Nat) (x : TmR) (j : Nat) (w : World) (hX : SXB w p a S) (hS : SS w a S) (hok : S.ok) (hx : x.2.1 = (j : Int)) (hj : j < S.V.length) : Calls Tryz.prog 131 #[.agg #[.string x.1, .int .i64 x.2.1, .bool x.2.2.1, .string x.2.2.2], .pointer (some ⟨p, 0, none⟩)] w fun e w' => e = .returned (.bool (emB (S.V.getD j ⟨#[]⟩))) ∧ Below w.heap.size w w' := by
  obtain ⟨s, i, g, E⟩ := x
  simp only at hx ⊢
  subst hx
  have hb := (Below.refl _ w).alloc (Nat.le_refl _) (.cells #[.string s, .int .i64 (j : Int), .bool g, .string E] 94)
  have m1 := (TmB.new w s (j : Int) g E).c1
  have hX2 := hX.below hb hX.lt
  have x1 := hX2.c1
  obtain ⟨b, off, e1, e2⟩ := (hS.below hb (Nat.le_refl _)).v j hj
  rw [var_at hj]
  have l2 : S.V.length ≤ maxLen := hok.vl
  unfold maxLen at l2
  rw [e1] at x1
  generalize S.V[j] = X at e2 ⊢
  generalize S.V.length = n at x1 hj l2
  clear hX hX2 hS hok e1
  rcases em_cases X with ⟨h1, rfl⟩ | ⟨h1, h2, h3⟩
  all_goals
    have H1 := Lib.hid h1
    clear h1
    go_enter Tryz.func131, Tryz.ntmps131
    go_wp2_with fail
    go_ret
    exact ⟨ret_bool (by rw [H1.out]), hb⟩
set_option maxHeartbeats 8000000 in
theorem kinds_any (a : StA) (S : StM) (w : World) (hS : SS w a S) (hok : S.ok) (hf : formB S.pl = true) :
    Calls Tryz.prog 107 #[.agg #[.slice a.ga S.G.length a.gc, .slice a.va S.V.length a.vc, .slice a.qa S.Q.length a.qc]] w fun e w' => e = .returned (.int .i64 (if typB S.pl = true then 0 else 10)) ∧ Below w.heap.size w w' := by
  have HF : Hid (∀ q ∈ S.Q, ∃ j : Nat, q.1 = (j : Int) ∧ j < S.G.length ∧ grpS S.pl (eqp q) = S.G.getD j (⟨#[]⟩, ⟨#[]⟩)) := fun q hq => by
    obtain ⟨h1, h2, _⟩ := form_q hf (q := eqp q) (by rw [StM.pl_Q]; exact List.mem_map_of_mem hq)
    exact ⟨q.1.toNat, by have : 0 ≤ q.1 := h1; omega, h2, rfl⟩
  have HT : Hid (∀ q ∈ S.Q, ∀ t ∈ q.2.2.2.2, ∃ j : Nat, t.2.1 = (j : Int) ∧ j < S.V.length ∧ emB (S.V.getD j ⟨#[]⟩) = !tyT S.pl t) := fun q hq t ht => by
    obtain ⟨_, _, _, h4⟩ := form_q hf (q := eqp q) (by rw [StM.pl_Q]; exact List.mem_map_of_mem hq)
    obtain ⟨g1, g2, _⟩ := h4 t ht
    exact ⟨t.2.1.toNat, by omega, g2, by unfold tyT bndS; rw [Bool.not_not]; rfl⟩
  rw [typB_pl]
  obtain ⟨TT, hTT⟩ : ∃ E, tyT S.pl = E := ⟨_, rfl⟩
  obtain ⟨EQ, hEQ⟩ : ∃ E, (fun q => tyQ S.pl (eqp q)) = E := ⟨_, rfl⟩
  have HE : Hid (∀ q, EQ q = (!emB (grpS S.pl (eqp q)).2 || q.2.2.2.2.all (tyT S.pl))) := fun q => by rw [← hEQ]; rfl
  obtain ⟨GS, hGS⟩ : ∃ E, (fun q => grpS S.pl (eqp q)) = E := ⟨_, rfl⟩
  have hgs : ∀ q, grpS S.pl (eqp q) = GS q := fun q => by rw [← hGS]
  simp only [hgs, hTT] at HE HF HT
  rw [hEQ]
  clear hEQ hGS hgs hf hTT
  have hb := (Below.refl _ w).alloc (Nat.le_refl _) (.cells #[.slice a.ga S.G.length a.gc, .slice a.va S.V.length a.vc, .slice a.qa S.Q.length a.qc] 42)
  have hX := SXB.new w a S
  have hS0 := hS.below hb (Nat.le_refl _)
  have HO := Lib.hid (fun w' (hb' : Below (w.alloc (.cells #[.slice a.ga S.G.length a.gc, .slice a.va S.V.length a.vc, .slice a.qa S.Q.length a.qc] 42)).heap.size (w.alloc (.cells #[.slice a.ga S.G.length a.gc, .slice a.va S.V.length a.vc, .slice a.qa S.Q.length a.qc] 42)) w') => order_any a S w' (hS0.below hb' (Nat.le_refl _)) hok)
  have HK := Lib.hid (fun x j w' (hb' : Below (w.alloc (.cells #[.slice a.ga S.G.length a.gc, .slice a.va S.V.length a.vc, .slice a.qa S.Q.length a.qc] 42)).heap.size (w.alloc (.cells #[.slice a.ga S.G.length a.gc, .slice a.va S.V.length a.vc, .slice a.qa S.Q.length a.qc] 42)) w') hx hj => fn_k3 a S w.heap.size x j w' (hX.below hb' hX.lt) (hS0.below hb' (Nat.le_refl _)) hok hx hj)
  have HG := Lib.hid hS0.g
  have HV := Lib.hid hS0.v
  have HQ := Lib.hid hS0.q
  have hX0 := hX.c0
  have hX1 := hX.c1
  have hX2 := hX.c2
  have l1 : S.G.length ≤ maxLen := hok.gl
  have l2 : S.V.length ≤ maxLen := hok.vl
  have l3 : S.Q.length ≤ maxLen := hok.ql
  have l4 : Hid (∀ q ∈ S.Q, q.2.2.2.2.length ≤ maxLen) := fun q hq => (hok.q q hq).2.2.1
  clear hS hS0 hok hX
  obtain ⟨ga, gc, va, vc, qa, qc⟩ := a
  obtain ⟨G, W, Q⟩ := S
  simp only at hb HF HT HO HK HG HV HQ hX0 hX1 hX2 l1 l2 l3 l4 ⊢
  obtain ⟨ng, hng⟩ : ∃ n, G.length = n := ⟨_, rfl⟩
  obtain ⟨nw, hnv⟩ : ∃ n, W.length = n := ⟨_, rfl⟩
  obtain ⟨nq, hnq⟩ : ∃ n, Q.length = n := ⟨_, rfl⟩
  simp only [hng, hnv, hnq] at hb hX0 hX1 hX2 l1 l2 l3 HG HV HQ HF HT HO HK ⊢
  have HNG := Lib.hid hng
  have HNV := Lib.hid hnv
  have HNQ := Lib.hid hnq
  obtain ⟨o, ho⟩ : ∃ o, ordL G = o := ⟨_, rfl⟩
  rw [ho] at HO ⊢
  obtain ⟨B0, hB0⟩ : ∃ B, W.any emB = B := ⟨_, rfl⟩
  have HC1 := Lib.hid (con_k1 va vc nw W emB (w.alloc (.cells #[.slice ga ng gc, .slice va nw vc, .slice qa nq qc] 42)) HV.out HNV.out l2 (fun wr _ x _ => fn_k1 x wr))
  rw [hB0] at HC1 ⊢
  clear hng hnv hnq hB0 ho HV
  have L1 := Lib.hid l1
  obtain ⟨V, hVV⟩ : ∃ V, (!B0 || !emB o && (G.all (tyG o) && Q.all EQ)) = V := ⟨_, rfl⟩
  rw [hVV]
  have HVV := Lib.hid hVV
  clear hVV
  unfold maxLen at l1 l2 l3
  cases B0
  · obtain rfl : true = V := HVV.out
    go_enter Tryz.func107, Tryz.ntmps107
    go_wp2_with fail
    refine HC1.out.mono ?_; rintro e w1 ⟨rfl, b1⟩
    have hb2 := hb.trans (b1.mono hb.size)
    go_wp2_with fail
    go_ret
    exact ⟨rfl, hb2⟩
  · go_enter Tryz.func107, Tryz.ntmps107
    go_wp2_with fail
    generalize hw0 : World.alloc _ _ = w0 at hb hX0 hX1 hX2 HG HQ HO HK HC1 ⊢
    clear hw0
    refine HC1.out.mono ?_; rintro e w1 ⟨rfl, b1⟩
    have hb1 := hb.trans (b1.mono hb.size)
    have x0 := cells_keepL b1 (Nat.le_refl _) _ _ hX0
    have x1 := cells_keepL b1 (Nat.le_refl _) _ _ hX1
    have x2 := cells_keepL b1 (Nat.le_refl _) _ _ hX2
    go_wp2_with fail
    refine (HO.out _ b1).mono ?_; rintro e w2 ⟨rfl, b2⟩
    have hb2 := hb1.trans (b2.mono hb1.size)
    have b12 := b1.trans (b2.mono b1.size)
    have y0 := cells_keepL b2 (Nat.le_refl _) _ _ x0
    have y2 := cells_keepL b2 (Nat.le_refl _) _ _ x2
    have hbN := (Below.refl _ w2).alloc (Nat.le_refl _) (.cells #[.string o] 22)
    have hO := SB.new w2 o
    have z0 := cells_keepL hbN (Nat.le_refl _) _ _ y0
    have z2 := cells_keepL hbN (Nat.le_refl _) _ _ y2
    have hb3 := hb2.trans (hbN.mono hb2.size)
    have b13 := b12.trans (hbN.mono b12.size)
    have o0 := hO.c
    have HG3 := Lib.hid (HG.out.keep (cells_keepL b13 (Nat.le_refl _)))
    clear hX0 hX1 hX2 x0 x1 x2 y0 y2 hb1 b1 b2 HO HC1 b12 hb hb2
    rcases em_cases o with ⟨h1, rfl⟩ | ⟨h1, h2, h3⟩
    · obtain rfl : V = false := by rw [← HVV.out, h1]; rfl
      clear h1 HVV
      go_wp2_with fail
      go_ret
      exact ⟨rfl, hb3⟩
    have H1 := Lib.hid h1
    have hal : (G.any fun g => !tyG o g) = !G.all (tyG o) := List.not_all_eq_any_not.symm
    have HC2 := Lib.hid (con_k2 ga gc ng G (fun g => !tyG o g) w2.heap.size (w2.alloc (.cells #[.string o] 22)) HG3.out HNG.out L1.out (fun wr' hb' x _ => fn_k2 o w2.heap.size x wr' (hO.below hb' hO.lt)))
    obtain ⟨B1, hB1⟩ : ∃ B, G.all (tyG o) = B := ⟨_, rfl⟩
    have hVV := HVV.out
    rw [hB1, h1] at hVV
    rw [hB1] at hal
    rw [hal] at HC2
    clear h1 hal hB1 HVV H1
    cases B1
    · obtain rfl : V = false := hVV.symm
      go_wp2_with fail
      refine HC2.out.mono ?_; rintro e w4 ⟨rfl, b4⟩
      have hb4 := hb3.trans (b4.mono hb3.size)
      go_wp2_with fail
      go_ret
      exact ⟨rfl, hb4⟩
    obtain ⟨R, hR⟩ : ∃ R, Q.all EQ = R := ⟨_, rfl⟩
    rw [hR] at hVV
    obtain rfl : R = V := hVV
    have H0 : Hid ((Q.drop 0).all EQ = R) := hR
    clear hR
    go_wp2_with fail
    refine HC2.out.mono ?_; rintro e w4 ⟨rfl, b4⟩
    have hb4 := hb3.trans (b4.mono hb3.size)
    have b14 := b13.trans (b4.mono b13.size)
    have d0 := cells_keepL b4 (Nat.le_refl _) _ _ z0
    have d2 := cells_keepL b4 (Nat.le_refl _) _ _ z2
    have HG4 := Lib.hid (HG.out.keep (cells_keepL b14 (Nat.le_refl _)))
    have HQ4 := Lib.hid (HQ.out.keep (cells_keepL b14 (Nat.le_refl _)))
    clear z0 z2 HG3 HC2 hb3 b13 b4 hbN hO o0 HG HQ h2 h3
    go_wp2_with fail
    go_loopw [23] (fun v23 wr => ∃ k : Nat, k ≤ nq ∧ v23 = .int .i64 (k : Int) ∧ Hid ((Q.drop k).all EQ = R) ∧ Below w4.heap.size w4 wr) (fun v23 _ => nq - (intOf v23).toNat)
    case atStart => exact ⟨0, by omega, rfl, H0, Below.refl _ _⟩
    case round =>
      clear H0
      obtain ⟨h, hh, rfl, hP, hB⟩ := hrel
      have hbw := hb4.trans (hB.mono hb4.size)
      have b1w := b14.trans (hB.mono b14.size)
      have x0 := cells_keepL hB (Nat.le_refl _) _ _ d0
      have x2 := cells_keepL hB (Nat.le_refl _) _ _ d2
      by_cases hlt : h < nq
      · have hkQ : h < Q.length := by rw [HNQ.out]; exact hlt
        have hlx := l4.out _ (List.getElem_mem hkQ)
        have HTx := Lib.hid (HT.out _ (List.getElem_mem hkQ))
        obtain ⟨j, hj1, hj2, hj3⟩ := HF.out _ (List.getElem_mem hkQ)
        obtain ⟨b, off, rfl, e0, e1, e2, hT⟩ := (HQ4.out.keep (cells_keepL hB (Nat.le_refl _))) h hkQ
        have hw := hP.out
        rw [List.drop_eq_getElem_cons hkQ, List.all_cons, HE.out, hj3] at hw
        clear hj3
        generalize Q[h] = x at e0 e1 e2 hT hlx hw hj1 HTx
        obtain ⟨i, T, ta, tc, L⟩ := x
        simp only at e0 e1 e2 hT hlx hw hj1 HTx
        subst hj1
        have hjG : j < G.length := by rw [HNG.out]; exact hj2
        obtain ⟨b2, off2, rfl, f0, f1⟩ := (HG4.out.keep (cells_keepL hB (Nat.le_refl _))) j hjG
        rw [grp_at hjG] at hw
        generalize G[j] = x at f0 f1 hw
        obtain ⟨M, O⟩ := x
        simp only at f0 f1 hw
        obtain ⟨nt, hnt⟩ : ∃ n, L.length = n := ⟨_, rfl⟩
        rw [hnt] at e2 hlx
        have HNT := Lib.hid hnt
        have hbN := (Below.refl _ wr).alloc (Nat.le_refl _) (.cells #[.int .i64 (j : Int), .string T, .slice ta nt tc] 68)
        have hN := QB.new wr (j : Int) T (.slice ta nt tc)
        have hbf := hbw.trans (hbN.mono hbw.size)
        have b1f := b1w.trans (hbN.mono b1w.size)
        have hB2 := hB.trans (hbN.mono hB.size)
        have n0 := hN.c0
        have n2 := hN.c2
        have y0 := cells_keepL hbN (Nat.le_refl _) _ _ x0
        have f1 := cells_keepL hbN (Nat.le_refl _) _ _ f1
        have HTT := Lib.hid (hT.keep (cells_keepL hbN (Nat.le_refl _)))
        clear hP hkQ hB hbw b1w hT x0 hnt hjG d0 hN f0
        rcases em_cases O with ⟨h1, rfl⟩ | ⟨h1, h2, h3⟩
        · rw [h1] at hw
          have hal : (L.any fun t => !TT t) = !L.all TT := List.not_all_eq_any_not.symm
          have HC3 := Lib.hid (con_k3 ta tc nt L (fun t => !TT t) w.heap.size (wr.alloc (.cells #[.int .i64 (j : Int), .string T, .slice ta nt tc] 68)) HTT.out HNT.out hlx (fun wr' hb' x hx => by
            obtain ⟨i, hi1, hi2, hi3⟩ := HTx.out x hx
            rw [← hi3]
            exact HK.out x i wr' (b1f.trans (hb'.mono b1f.size)) hi1 hi2))
          obtain ⟨B2, hB2'⟩ : ∃ B, L.all TT = B := ⟨_, rfl⟩
          rw [hB2'] at hal hw
          rw [hal] at HC3
          clear h1 hal hB2' HTT
          cases B2
          · obtain rfl : R = false := by rw [← hw]; rfl
            go_wp2_with fail
            refine HC3.out.mono ?_; rintro e w6 ⟨rfl, b6⟩
            have hbi := hbf.trans (b6.mono hbf.size)
            go_wp2_with fail
            go_ret
            exact ⟨rfl, hbi⟩
          · have HW2 : Hid ((Q.drop (h + 1)).all EQ = R) := hw
            clear hw
            go_wp2_with fail
            refine HC3.out.mono ?_; rintro e w6 ⟨rfl, b6⟩
            have hB5 := hB2.trans (b6.mono hB2.size)
            go_wp2_with fail
            exact ⟨⟨h + 1, by omega, by go_num, HW2, hB5⟩, by simp [intOf]; omega⟩
        · rw [h1] at hw
          have HW2 : Hid ((Q.drop (h + 1)).all EQ = R) := hw
          clear hw h1 HTT
          go_wp2_with fail
          exact ⟨⟨h + 1, by omega, by go_num, HW2, hB2⟩, by simp [intOf]; omega⟩
      · obtain rfl : nq = h := by omega
        have hw := hP.out
        rw [List.drop_of_length_le (by rw [HNQ.out]; omega)] at hw
        obtain rfl : true = R := hw
        clear hP
        go_wp2_with fail
        go_ret
        exact ⟨rfl, hbw⟩
theorem fidx0 (w : World) : (Instr.index 161 (.agg #[.func (.func 76) #[] #[], .func (.func 105) #[] #[], .func (.func 106) #[] #[], .func (.func 107) #[] #[]]) (.int .i64 0)).run Tryz.prog w = .ok (.func (.func 76) #[] #[]) w := by kernel_rfl
theorem fidx1 (w : World) : (Instr.index 161 (.agg #[.func (.func 76) #[] #[], .func (.func 105) #[] #[], .func (.func 106) #[] #[], .func (.func 107) #[] #[]]) (.int .i64 1)).run Tryz.prog w = .ok (.func (.func 105) #[] #[]) w := by kernel_rfl
theorem fidx2 (w : World) : (Instr.index 161 (.agg #[.func (.func 76) #[] #[], .func (.func 105) #[] #[], .func (.func 106) #[] #[], .func (.func 107) #[] #[]]) (.int .i64 2)).run Tryz.prog w = .ok (.func (.func 106) #[] #[]) w := by kernel_rfl
theorem fidx3 (w : World) : (Instr.index 161 (.agg #[.func (.func 76) #[] #[], .func (.func 105) #[] #[], .func (.func 106) #[] #[], .func (.func 107) #[] #[]]) (.int .i64 3)).run Tryz.prog w = .ok (.func (.func 107) #[] #[]) w := by kernel_rfl
set_option maxHeartbeats 8000000 in
theorem lcheck_any (a : StA) (S : StM) (w : World) (hS : SS w a S) (hok : S.ok) :
    Calls Tryz.prog 79 #[.agg #[.slice a.ga S.G.length a.gc, .slice a.va S.V.length a.vc, .slice a.qa S.Q.length a.qc]] w fun e w' => e = .returned (.int .i64 (lckE S.pl)) ∧ Below w.heap.size w w' := by
  have hb := (Below.refl _ w).alloc (Nat.le_refl _) (.cells #[.slice a.ga S.G.length a.gc, .slice a.va S.V.length a.vc, .slice a.qa S.Q.length a.qc] 42)
  have hX := SXB.new w a S
  have hS0 := hS.below hb (Nat.le_refl _)
  have H1 := Lib.hid (fun w' (hb' : Below (w.alloc (.cells #[.slice a.ga S.G.length a.gc, .slice a.va S.V.length a.vc, .slice a.qa S.Q.length a.qc] 42)).heap.size (w.alloc (.cells #[.slice a.ga S.G.length a.gc, .slice a.va S.V.length a.vc, .slice a.qa S.Q.length a.qc] 42)) w') => form_any a S w' (hS0.below hb' (Nat.le_refl _)) hok)
  have H2 := Lib.hid (fun w' (hb' : Below (w.alloc (.cells #[.slice a.ga S.G.length a.gc, .slice a.va S.V.length a.vc, .slice a.qa S.Q.length a.qc] 42)).heap.size (w.alloc (.cells #[.slice a.ga S.G.length a.gc, .slice a.va S.V.length a.vc, .slice a.qa S.Q.length a.qc] 42)) w') => sizes_any a S w' (hS0.below hb' (Nat.le_refl _)) hok)
  have H3 := Lib.hid (fun w' (hb' : Below (w.alloc (.cells #[.slice a.ga S.G.length a.gc, .slice a.va S.V.length a.vc, .slice a.qa S.Q.length a.qc] 42)).heap.size (w.alloc (.cells #[.slice a.ga S.G.length a.gc, .slice a.va S.V.length a.vc, .slice a.qa S.Q.length a.qc] 42)) w') hf => elements_any a S w' (hS0.below hb' (Nat.le_refl _)) hok hf)
  have H4 := Lib.hid (fun w' (hb' : Below (w.alloc (.cells #[.slice a.ga S.G.length a.gc, .slice a.va S.V.length a.vc, .slice a.qa S.Q.length a.qc] 42)).heap.size (w.alloc (.cells #[.slice a.ga S.G.length a.gc, .slice a.va S.V.length a.vc, .slice a.qa S.Q.length a.qc] 42)) w') hf => kinds_any a S w' (hS0.below hb' (Nat.le_refl _)) hok hf)
  have HL : lckE S.pl = if formB S.pl = true then (if manyB S.pl = true then 6 else if elB S.pl = true then (if typB S.pl = true then 0 else 10) else 13) else 3 := rfl
  obtain ⟨Z, hZ⟩ : ∃ Z, lckE S.pl = Z := ⟨_, rfl⟩
  rw [hZ] at HL ⊢
  obtain ⟨F, hF⟩ : ∃ F, formB S.pl = F := ⟨_, rfl⟩
  obtain ⟨M, hM⟩ : ∃ F, manyB S.pl = F := ⟨_, rfl⟩
  obtain ⟨E, hE⟩ : ∃ F, elB S.pl = F := ⟨_, rfl⟩
  obtain ⟨T, hT⟩ : ∃ F, typB S.pl = F := ⟨_, rfl⟩
  rw [hF] at H1 H3 H4 HL
  rw [hM] at H2 HL
  rw [hE] at H3 HL
  rw [hT] at H4 HL
  have HZ := Lib.hid HL
  have hX0 := hX.c0
  have hX1 := hX.c1
  have hX2 := hX.c2
  clear hZ HL hF hM hE hT hS hS0 hok hX
  go_enter Tryz.func79, Tryz.ntmps79
  go_wp2_with fail
  generalize hw0 : World.alloc _ _ = w0 at hb hX0 hX1 hX2 H1 H2 H3 H4 ⊢
  clear hw0
  go_wp2_with fail
  go_loopw [7] (fun v7 wr => ∃ i : Int, v7 = .int .i64 i ∧ (i = 0 ∨ (i = 1 ∧ F = true) ∨ (i = 2 ∧ F = true ∧ M = false) ∨ (i = 3 ∧ F = true ∧ M = false ∧ E = true) ∨ (i = 4 ∧ F = true ∧ M = false ∧ E = true ∧ T = true)) ∧ Below w0.heap.size w0 wr) (fun v7 _ => 4 - (intOf v7).toNat)
  case atStart => exact ⟨0, rfl, .inl rfl, Below.refl _ _⟩
  case round =>
    obtain ⟨i, rfl, hi, hB⟩ := hrel
    have hbw := hb.trans (hB.mono hb.size)
    have d0 := cells_keepL hB (Nat.le_refl _) _ _ hX0
    have d1 := cells_keepL hB (Nat.le_refl _) _ _ hX1
    have d2 := cells_keepL hB (Nat.le_refl _) _ _ hX2
    rcases hi with rfl | ⟨rfl, rfl⟩ | ⟨rfl, rfl, rfl⟩ | ⟨rfl, rfl, rfl, rfl⟩ | ⟨rfl, rfl, rfl, rfl, rfl⟩
    · have hix := fidx0 wr
      cases F
      · obtain rfl : Z = 3 := HZ.out
        go_wp2_with fail
        refine (H1.out _ hB).mono ?_; rintro e w1 ⟨rfl, b1⟩
        have hbe := hbw.trans (b1.mono hbw.size)
        go_wp2_with fail
        go_ret
        exact ⟨rfl, hbe⟩
      · go_wp2_with fail
        refine (H1.out _ hB).mono ?_; rintro e w1 ⟨rfl, b1⟩
        have hB2 := hB.trans (b1.mono hB.size)
        go_wp2_with fail
        exact ⟨⟨1, rfl, by simp, hB2⟩, by simp [intOf]⟩
    · have hix := fidx1 wr
      cases M
      · go_wp2_with fail
        refine (H2.out _ hB).mono ?_; rintro e w1 ⟨rfl, b1⟩
        have hB2 := hB.trans (b1.mono hB.size)
        go_wp2_with fail
        exact ⟨⟨2, rfl, by simp, hB2⟩, by simp [intOf]⟩
      · obtain rfl : Z = 6 := HZ.out
        go_wp2_with fail
        refine (H2.out _ hB).mono ?_; rintro e w1 ⟨rfl, b1⟩
        have hbe := hbw.trans (b1.mono hbw.size)
        go_wp2_with fail
        go_ret
        exact ⟨rfl, hbe⟩
    · have hix := fidx2 wr
      cases E
      · obtain rfl : Z = 13 := HZ.out
        go_wp2_with fail
        refine (H3.out _ hB (by trivial)).mono ?_; rintro e w1 ⟨rfl, b1⟩
        have hbe := hbw.trans (b1.mono hbw.size)
        go_wp2_with fail
        go_ret
        exact ⟨rfl, hbe⟩
      · go_wp2_with fail
        refine (H3.out _ hB (by trivial)).mono ?_; rintro e w1 ⟨rfl, b1⟩
        have hB2 := hB.trans (b1.mono hB.size)
        go_wp2_with fail
        exact ⟨⟨3, rfl, by simp, hB2⟩, by simp [intOf]⟩
    · have hix := fidx3 wr
      cases T
      · obtain rfl : Z = 10 := HZ.out
        go_wp2_with fail
        refine (H4.out _ hB (by trivial)).mono ?_; rintro e w1 ⟨rfl, b1⟩
        have hbe := hbw.trans (b1.mono hbw.size)
        go_wp2_with fail
        go_ret
        exact ⟨rfl, hbe⟩
      · go_wp2_with fail
        refine (H4.out _ hB (by trivial)).mono ?_; rintro e w1 ⟨rfl, b1⟩
        have hB2 := hB.trans (b1.mono hB.size)
        go_wp2_with fail
        exact ⟨⟨4, rfl, by simp, hB2⟩, by simp [intOf]⟩
    · obtain rfl : Z = 0 := HZ.out
      go_wp2_with fail
      go_ret
      exact ⟨rfl, hbw⟩
theorem fn_rd (x : Bool × ByteArray) (w : World) : Calls Tryz.prog 78 #[.agg #[.bool x.1, .string x.2]] w fun e w' => e = .returned (.bool (!ivB x)) ∧ Below w.heap.size w w' := by
  obtain ⟨g, s⟩ := x
  simp only
  have hb := (Below.refl _ w).alloc (Nat.le_refl _) (.cells #[.bool g, .string s] 50)
  have c0 : (w.alloc (.cells #[.bool g, .string s] 50)).cell? ⟨w.heap.size, 0, none⟩ = some (.bool g) := by rw [Lib.cell_of_heap (heap_alloc_new w _)]; rfl
  have c1 : (w.alloc (.cells #[.bool g, .string s] 50)).cell? ⟨w.heap.size, 1, none⟩ = some (.string s) := by rw [Lib.cell_of_heap (heap_alloc_new w _)]; rfl
  obtain ⟨V, hV⟩ : ∃ V, ivB (g, s) = V := ⟨_, rfl⟩
  have HV := Lib.hid (ivalidW hV)
  rw [hV]
  clear hV
  go_enter Tryz.func78, Tryz.ntmps78
  go_wp2_with fail
  refine (HV.out _).mono ?_; rintro e w1 ⟨rfl, b1⟩
  have hb2 := hb.trans (b1.mono hb.size)
  go_wp2_with fail
  go_ret
  exact ⟨rfl, hb2⟩
set_option maxHeartbeats 8000000 in
theorem ready_any (a : StA) (S : StM) (bo : Option Addr) (n c : Nat) (l : List (Bool × ByteArray)) (w : World) (hS : SS w a S) (hok : S.ok) (hl : IS w bo l) (hn : l.length = n) (hn1 : n ≤ maxLen) :
    Calls Tryz.prog 50 #[.agg #[.slice a.ga S.G.length a.gc, .slice a.va S.V.length a.vc, .slice a.qa S.Q.length a.qc], .slice bo n c] w fun e w' => e = .returned (.int .i64 (rdE S.pl l)) ∧ Below w.heap.size w w' := by
  have hb := (Below.refl _ w).alloc (Nat.le_refl _) (.cells #[.slice a.ga S.G.length a.gc, .slice a.va S.V.length a.vc, .slice a.qa S.Q.length a.qc] 42)
  have hX := SXB.new w a S
  have hS0 := hS.below hb (Nat.le_refl _)
  have hl0 := hl.below hb (Nat.le_refl _)
  have H1 := Lib.hid (form_any a S (w.alloc (.cells #[.slice a.ga S.G.length a.gc, .slice a.va S.V.length a.vc, .slice a.qa S.Q.length a.qc] 42)) hS0 hok)
  have H2 := Lib.hid (fun w' (hb' : Below (w.alloc (.cells #[.slice a.ga S.G.length a.gc, .slice a.va S.V.length a.vc, .slice a.qa S.Q.length a.qc] 42)).heap.size (w.alloc (.cells #[.slice a.ga S.G.length a.gc, .slice a.va S.V.length a.vc, .slice a.qa S.Q.length a.qc] 42)) w') => con_rd bo c n l (fun x => !ivB x) w' (hl0.below hb' (Nat.le_refl _)) hn hn1 (fun wr _ x _ => fn_rd x wr))
  have H3 := Lib.hid (fun w' (hb' : Below (w.alloc (.cells #[.slice a.ga S.G.length a.gc, .slice a.va S.V.length a.vc, .slice a.qa S.Q.length a.qc] 42)).heap.size (w.alloc (.cells #[.slice a.ga S.G.length a.gc, .slice a.va S.V.length a.vc, .slice a.qa S.Q.length a.qc] 42)) w') => lcheck_any a S w' (hS0.below hb' (Nat.le_refl _)) hok)
  have hal : (l.any fun x => !ivB x) = !l.all ivB := List.not_all_eq_any_not.symm
  rw [hal] at H2
  have HL : rdE S.pl l = if formB S.pl = true ∧ l.all ivB = true then (if rstE S.pl = 0 then (if l.length = S.V.length then 0 else 6) else rstE S.pl) else 3 := rfl
  have hck : lckE S.pl = if formB S.pl = true then rstE S.pl else 3 := rfl
  obtain ⟨Z, hZ⟩ : ∃ Z, rdE S.pl l = Z := ⟨_, rfl⟩
  rw [hZ, hn] at HL
  rw [hZ]
  rw [hck] at H3
  obtain ⟨F, hF⟩ : ∃ F, formB S.pl = F := ⟨_, rfl⟩
  obtain ⟨M, hM⟩ : ∃ F, l.all ivB = F := ⟨_, rfl⟩
  obtain ⟨E, hE⟩ : ∃ F, rstE S.pl = F := ⟨_, rfl⟩
  rw [hF] at H1 H3 HL
  rw [hM] at H2 HL
  rw [hE] at H3 HL
  have l2 : S.V.length ≤ maxLen := hok.vl
  have hX0 := hX.c0
  have hX1 := hX.c1
  have hX2 := hX.c2
  obtain ⟨nw, hnw⟩ : ∃ n, S.V.length = n := ⟨_, rfl⟩
  simp only [hnw] at hb hX0 hX1 hX2 H1 H2 H3 HL l2 ⊢
  have HZ := Lib.hid HL
  unfold maxLen at l2 hn1
  clear hZ HL hF hM hE hS hS0 hok hX hck hl hl0 hn hnw hal
  cases F
  · obtain rfl : Z = 3 := by have := HZ.out; rw [if_neg (by simp)] at this; exact this
    go_enter Tryz.func50, Tryz.ntmps50
    go_wp2_with fail
    generalize hw0 : World.alloc _ _ = w0 at hb hX0 hX1 hX2 H1 H2 H3 ⊢
    clear hw0
    go_wp2_with fail
    refine H1.out.mono ?_; rintro e w1 ⟨rfl, b1⟩
    have hb1 := hb.trans (b1.mono hb.size)
    go_wp2_with fail
    go_ret
    exact ⟨rfl, hb1⟩
  cases M
  · obtain rfl : Z = 3 := by have := HZ.out; rw [if_neg (by simp)] at this; exact this
    go_enter Tryz.func50, Tryz.ntmps50
    go_wp2_with fail
    generalize hw0 : World.alloc _ _ = w0 at hb hX0 hX1 hX2 H1 H2 H3 ⊢
    clear hw0
    go_wp2_with fail
    refine H1.out.mono ?_; rintro e w1 ⟨rfl, b1⟩
    have hb1 := hb.trans (b1.mono hb.size)
    go_wp2_with fail
    refine (H2.out _ b1).mono ?_; rintro e w2 ⟨rfl, b2⟩
    have hb2 := hb1.trans (b2.mono hb1.size)
    go_wp2_with fail
    go_ret
    exact ⟨rfl, hb2⟩
  have hz := HZ.out
  rw [if_pos ⟨rfl, rfl⟩] at hz
  clear HZ
  by_cases hE0 : E = 0
  · subst hE0
    rw [if_pos rfl] at hz
    by_cases hln : n = nw
    · subst hln
      rw [if_pos rfl] at hz
      subst hz
      have q1 : ((n : Int) != (n : Int)) = false := by simp
      go_enter Tryz.func50, Tryz.ntmps50
      go_wp2_with fail
      generalize hw0 : World.alloc _ _ = w0 at hb hX0 hX1 hX2 H1 H2 H3 ⊢
      clear hw0
      go_wp2_with fail
      refine H1.out.mono ?_; rintro e w1 ⟨rfl, b1⟩
      have hb1 := hb.trans (b1.mono hb.size)
      go_wp2_with fail
      refine (H2.out _ b1).mono ?_; rintro e w2 ⟨rfl, b2⟩
      have hb2 := hb1.trans (b2.mono hb1.size)
      have b12 := b1.trans (b2.mono b1.size)
      have x0 := cells_keepL b12 (Nat.le_refl _) _ _ hX0
      have x1 := cells_keepL b12 (Nat.le_refl _) _ _ hX1
      have x2 := cells_keepL b12 (Nat.le_refl _) _ _ hX2
      go_wp2_with fail
      refine (H3.out _ b12).mono ?_; rintro e w3 ⟨rfl, b3⟩
      have hb3 := hb2.trans (b3.mono hb2.size)
      have y1 := cells_keepL b3 (Nat.le_refl _) _ _ x1
      go_wp2_with fail
      go_ret
      exact ⟨rfl, hb3⟩
    · rw [if_neg hln] at hz
      subst hz
      have q1 : ((n : Int) != (nw : Int)) = true := by rw [bne_iff_ne]; omega
      have q2 : ¬ ((n : Int) = (nw : Int)) := by omega
      have q3 : ¬ (n = nw) := hln
      go_enter Tryz.func50, Tryz.ntmps50
      go_wp2_with fail
      generalize hw0 : World.alloc _ _ = w0 at hb hX0 hX1 hX2 H1 H2 H3 ⊢
      clear hw0
      go_wp2_with fail
      refine H1.out.mono ?_; rintro e w1 ⟨rfl, b1⟩
      have hb1 := hb.trans (b1.mono hb.size)
      go_wp2_with fail
      refine (H2.out _ b1).mono ?_; rintro e w2 ⟨rfl, b2⟩
      have hb2 := hb1.trans (b2.mono hb1.size)
      have b12 := b1.trans (b2.mono b1.size)
      have x0 := cells_keepL b12 (Nat.le_refl _) _ _ hX0
      have x1 := cells_keepL b12 (Nat.le_refl _) _ _ hX1
      have x2 := cells_keepL b12 (Nat.le_refl _) _ _ hX2
      go_wp2_with fail
      refine (H3.out _ b12).mono ?_; rintro e w3 ⟨rfl, b3⟩
      have hb3 := hb2.trans (b3.mono hb2.size)
      have y1 := cells_keepL b3 (Nat.le_refl _) _ _ x1
      go_wp2_with fail
      go_ret
      exact ⟨rfl, hb3⟩
  · rw [if_neg hE0] at hz
    subst hz
    have q1 : (Z != 0) = true := by rw [bne_iff_ne]; exact hE0
    have q2 : (Z == 0) = false := by rw [beq_eq_false_iff_ne]; exact hE0
    go_enter Tryz.func50, Tryz.ntmps50
    go_wp2_with fail
    generalize hw0 : World.alloc _ _ = w0 at hb hX0 hX1 hX2 H1 H2 H3 ⊢
    clear hw0
    go_wp2_with fail
    refine H1.out.mono ?_; rintro e w1 ⟨rfl, b1⟩
    have hb1 := hb.trans (b1.mono hb.size)
    go_wp2_with fail
    refine (H2.out _ b1).mono ?_; rintro e w2 ⟨rfl, b2⟩
    have hb2 := hb1.trans (b2.mono hb1.size)
    have b12 := b1.trans (b2.mono b1.size)
    have x0 := cells_keepL b12 (Nat.le_refl _) _ _ hX0
    have x1 := cells_keepL b12 (Nat.le_refl _) _ _ hX1
    have x2 := cells_keepL b12 (Nat.le_refl _) _ _ hX2
    go_wp2_with fail
    refine (H3.out _ b12).mono ?_; rintro e w3 ⟨rfl, b3⟩
    have hb3 := hb2.trans (b3.mono hb2.size)
    go_wp2_with fail
    go_ret
    exact ⟨rfl, hb3⟩
end Go.Proofs.YtdlbnioidfhhcaaGreat
