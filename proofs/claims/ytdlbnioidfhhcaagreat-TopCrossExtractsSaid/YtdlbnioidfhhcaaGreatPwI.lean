import Derived.Test.YtdlbnioidfhhcaaGreatPwA
import Derived.Test.YtdlbnioidfhhcaaGreatPwF
import Derived.Deep.RegionHeld3
/- Plain facts: elements are closed under products, powers and inverses; products of powers in the reverse order. -/
namespace Go.Proofs.YtdlbnioidfhhcaaGreat
namespace Num
theorem inv_unit {a m : Nat} (hm : 0 < m) (h : Nat.gcd a m = 1) : Nat.gcd (invm a m) m = 1 := by
  obtain ⟨h1, h2⟩ := invm_ok hm h
  have hd : Nat.gcd (invm a m) m ∣ a * invm a m := Nat.dvd_trans (Nat.gcd_dvd_left _ _) (Nat.dvd_mul_left _ _)
  have hm' := Nat.gcd_dvd_right (invm a m) m
  have h3 : Nat.gcd (invm a m) m ∣ a * invm a m % m := (Nat.dvd_mod_iff hm').2 hd
  rw [h2] at h3
  have h4 : Nat.gcd (invm a m) m ∣ 1 := (Nat.dvd_mod_iff hm').1 h3
  exact Nat.dvd_one.1 h4
theorem unit_ne {x m : Nat} (h2 : 2 ≤ m) (h : Nat.gcd x m = 1) : x ≠ 0 := by
  rintro rfl
  rw [Nat.gcd_zero_left] at h; omega
theorem el_one {m o : Nat} (h : 2 ≤ m) : elN m o 1 = true := by
  rw [elN_iff]
  refine ⟨⟨by omega, by omega⟩, ?_⟩
  by_cases h0 : o = 0
  · rw [if_pos h0]; simp
  · rw [if_neg h0, Nat.one_pow, Nat.mod_eq_of_lt (by omega)]
theorem el_mul {m o x y : Nat} (h : 2 ≤ m) (hx : elN m o x = true) (hy : elN m o y = true) : elN m o (x * y % m) = true := by
  have ux := el_unit hx
  have uy := el_unit hy
  have uz : Nat.gcd (x * y % m) m = 1 := by rw [gcd_mod_left]; exact Nat.Coprime.mul_left ux uy
  rw [elN_iff] at hx hy ⊢
  refine ⟨⟨unit_ne h uz, Nat.mod_lt _ (by omega)⟩, ?_⟩
  by_cases h0 : o = 0
  · rw [if_pos h0]; exact uz
  · have a := hx.2
    have b := hy.2
    rw [if_neg h0] at a b ⊢
    rw [← Nat.pow_mod, Nat.mul_pow, Nat.mul_mod, a, b, Nat.mul_one, Nat.mod_eq_of_lt (by omega)]
theorem el_pow {m o x : Nat} (h : 2 ≤ m) (hx : elN m o x = true) : ∀ e : Nat, elN m o (x ^ e % m) = true
  | 0 => by rw [Nat.pow_zero, Nat.mod_eq_of_lt (by omega)]; exact el_one h
  | e + 1 => by
    have := el_mul h (el_pow h hx e) hx
    rw [Nat.mod_mul_mod] at this
    rw [Nat.pow_succ]; exact this
theorem el_inv {m o x : Nat} (h : 2 ≤ m) (hx : elN m o x = true) : elN m o (invm x m) = true := by
  have ux := el_unit hx
  obtain ⟨i1, i2⟩ := invm_ok (by omega) ux
  have uz := inv_unit (by omega) ux
  rw [elN_iff] at hx ⊢
  refine ⟨⟨unit_ne h uz, i1⟩, ?_⟩
  by_cases h0 : o = 0
  · rw [if_pos h0]; exact uz
  · have a := hx.2
    rw [if_neg h0] at a ⊢
    have e1 : (x * invm x m) ^ o % m = 1 := by
      rw [Nat.pow_mod, i2, Nat.mod_eq_of_lt (show 1 < m by omega), Nat.one_pow, Nat.mod_eq_of_lt (by omega)]
    rw [Nat.mul_pow, Nat.mul_mod, a, Nat.one_mul, Nat.mod_mod] at e1
    exact e1
theorem el_sb {m o x : Nat} (h : 2 ≤ m) (hx : elN m o x = true) (ng : Bool) : elN m o (sb m x ng) = true := by
  unfold sb
  split
  · exact el_inv h hx
  · exact hx
theorem el_pr {m o : Nat} (h : 2 ≤ m) : ∀ {L : List (Nat × Nat)}, (∀ p ∈ L, elN m o p.1 = true) → elN m o (pr L % m) = true
  | [], _ => by show elN m o (1 % m) = true; rw [Nat.mod_eq_of_lt (by omega)]; exact el_one h
  | p :: L, hp => by
    have a := el_pow h (hp p (by simp)) p.2
    have b := el_pr h (L := L) fun q hq => hp q (by simp [hq])
    have := el_mul h a b
    rw [← Nat.mul_mod] at this
    exact this
theorem pr_reverse (L : List (Nat × Nat)) : pr L.reverse = pr L := by
  induction L with
  | nil => rfl
  | cons p L ih =>
    rw [List.reverse_cons, pr_append, ih]
    show pr L * (p.1 ^ p.2 * 1) = p.1 ^ p.2 * pr L
    rw [Nat.mul_one, Nat.mul_comm]
theorem pr_take_succ (L : List (Nat × Nat)) (k : Nat) (hk : k < L.length) : pr (L.take (k + 1)) = pr (L.take k) * L[k].1 ^ L[k].2 := by
  rw [List.take_succ_eq_append_getElem hk, pr_append]
  simp [pr]
end Num
end Go.Proofs.YtdlbnioidfhhcaaGreat

/- dominolaw13: the law Agrees. -/
namespace Go.Proofs.YtdlbnioidfhhcaaGreat
open Go.RowKit Num
set_option maxRecDepth 20000
set_option linter.unusedVariables false
theorem keep5 {w1 w2 w3 : World} {a1 a2 a3 a4 a5 : Addr} {v1 v2 v3 v4 v5 : Value} (h : w2.cell? a1 = some v1 ∧ w2.cell? a2 = some v2 ∧ w2.cell? a3 = some v3 ∧ w2.cell? a4 = some v4 ∧ w2.cell? a5 = some v5 ∧ Below w1.heap.size w1 w2) (b : Below w2.heap.size w2 w3) :
    w3.cell? a1 = some v1 ∧ w3.cell? a2 = some v2 ∧ w3.cell? a3 = some v3 ∧ w3.cell? a4 = some v4 ∧ w3.cell? a5 = some v5 ∧ Below w1.heap.size w1 w3 :=
  ⟨cell_keepB h.1 b, cell_keepB h.2.1 b, cell_keepB h.2.2.1 b, cell_keepB h.2.2.2.1 b, cell_keepB h.2.2.2.2.1 b, h.2.2.2.2.2.trans (b.mono h.2.2.2.2.2.size)⟩
/-- the cells of integers -/
def icl (L : List (Bool × ByteArray)) : List Value := L.flatMap fun e => [.bool e.1, .string e.2]
theorem icl_len : ∀ L : List (Bool × ByteArray), (icl L).length = L.length * 2
  | [] => rfl
  | e :: L => by show (_ :: _ :: icl L).length = _; simp [icl_len L]; omega
theorem icl_append (L K : List (Bool × ByteArray)) : icl (L ++ K) = icl L ++ icl K := by simp [icl]
theorem icl_get : ∀ (L : List (Bool × ByteArray)) (k : Nat) (hk : k < L.length), (icl L)[k * 2]? = some (.bool L[k].1) ∧ (icl L)[k * 2 + 1]? = some (.string L[k].2)
  | e :: L, 0, _ => ⟨rfl, rfl⟩
  | e :: L, k + 1, h => by
    have := icl_get L k (by simpa using h)
    refine ⟨?_, ?_⟩
    · show (_ :: _ :: icl L)[(k + 1) * 2]? = _
      rw [show (k + 1) * 2 = k * 2 + 1 + 1 by omega, List.getElem?_cons_succ, List.getElem?_cons_succ, this.1]; rfl
    · show (_ :: _ :: icl L)[(k + 1) * 2 + 1]? = _
      rw [show (k + 1) * 2 + 1 = k * 2 + 1 + 1 + 1 by omega, List.getElem?_cons_succ, List.getElem?_cons_succ, this.2]; rfl
theorem own_NS {W : World} {K n : Nat} {e : TypeId} {v : Value} {L : List ByteArray} (h : W.ownsRow K e 1 v n (L.map Value.string)) : ∃ ao c, v = .slice ao n c ∧ NS W ao L := by
  have hlen : L.length = n := by have := h.1; simpa using this
  have hh := h
  rcases h.2 with ⟨h1, h2⟩ | ⟨g, cap, cur, rfl, _⟩
  · subst h2
    exact ⟨none, 0, h1, fun k hk => by omega⟩
  · refine ⟨_, cap, rfl, fun k hk => ⟨g, 0, rfl, ?_⟩⟩
    have := hh.cells (g := g) rfl k (.string L[k]) (by simp [hk])
    rw [addr_add] at this
    rw [Nat.zero_add]; exact this
theorem own_IS {W : World} {K n : Nat} {e : TypeId} {v : Value} {L : List (Bool × ByteArray)} (h : W.ownsRow K e 2 v n (icl L)) : ∃ ao c, v = .slice ao n c ∧ IS W ao L := by
  have hlen : L.length = n := by have := h.1; rw [icl_len] at this; omega
  have hh := h
  rcases h.2 with ⟨h1, h2⟩ | ⟨g, cap, cur, rfl, _⟩
  · subst h2
    exact ⟨none, 0, h1, fun k hk => by omega⟩
  · refine ⟨_, cap, rfl, fun k hk => ⟨g, 0, rfl, ?_, ?_⟩⟩
    · have := hh.cells (g := g) rfl (k * 2) _ (icl_get L k hk).1
      rw [addr_add] at this
      rw [Nat.zero_add]; exact this
    · have := hh.cells (g := g) rfl (k * 2 + 1) _ (icl_get L k hk).2
      rw [addr_add] at this
      rw [Nat.zero_add]; exact this
/-- a row of another type stays -/
theorem own_other {W W' : World} {K e1 e2 s1 s2 n1 n2 : Nat} {v1 v2 : Value} {xs ys : List Value} (h : W.ownsRow K e1 s1 v1 n1 xs) (h2 : W.ownsRow K e2 s2 v2 n2 ys) (hne : e1 ≠ e2) {o : Obj} (hg : (W.alloc o).grownBy W' v2.ownBlock) : W'.ownsRow K e1 s1 v1 n1 xs := by
  rcases h with ⟨h0, h | ⟨g, cap, cur, a1, a2, a3, a4⟩⟩
  · exact ⟨h0, .inl h⟩
  · have hl := (Array.getElem?_eq_some_iff.1 a3).1
    refine ⟨h0, .inr ⟨g, cap, cur, a1, a2, ?_, a4⟩⟩
    rw [hg.block g (by simp; omega) (fun e => by
      obtain ⟨_, cur', b3⟩ := own_ge h2 g e.symm
      rw [a3] at b3
      injection b3 with b3
      injection b3 with _ b3 _
      exact hne b3), Below.heap_alloc _ _ _ hl]
    exact a3
theorem info_int2 : (Tryz.prog.info? 50).map (fun i => (i.zero, i.size, i.bytes)) = some (some (.agg #[.bool false, .string ⟨#[]⟩]), 2, 24) := by kernel_rfl
theorem two_cellV {W : World} {g : Nat} {v u : Value} (h : W.cell? ⟨g, 0, none⟩ = some v) (h1 : W.cell? ⟨g, 1, none⟩ = some u) : ∀ j x, [v, u][j]? = some x → W.cell? ((⟨g, 0, none⟩ : Addr).add j) = some x := by
  intro j x hj
  rw [addr_add]
  match j, hj with
  | 0, hj => simp at hj; subst hj; exact h
  | 1, hj => simp at hj; subst hj; exact h1
theorem all_rev {α : Type} (p : α → Bool) (l : List α) : l.reverse.all p = l.all p := by simp
theorem gp_rev {M O : ByteArray} {l : List ByteArray} {es : List (Bool × ByteArray)} (h : gpE M O l es = 0) : gpE M O l.reverse es.reverse = 0 ∧ gpS M O l.reverse es.reverse = gpS M O l es := by
  have h1 : gpE M O l.reverse es.reverse = 0 := by
    rw [← h]
    unfold gpE ckE
    simp only [all_rev, List.length_reverse]
  refine ⟨h1, ?_⟩
  obtain ⟨_, _, hs, _⟩ := ck_ok h
  have hs := of_decide_eq_true hs
  rw [gpS, h1, mo_zero, gpS, h, mo_zero]
  unfold prs
  rw [← List.reverse_zipWith hs, pr_reverse]
theorem gpS_ok {M O : ByteArray} {l : List ByteArray} {es : List (Bool × ByteArray)} (h : gpE M O l es = 0) : hasB M O (gpS M O l es) = true := by
  obtain ⟨hv, hg, hs, hel⟩ := ck_ok h
  obtain ⟨hM, _, hm2, _⟩ := gE_ok hg
  have hn : IsN (enc (pr (prs (nv M) l es) % nv M)) (pr (prs (nv M) l es) % nv M) := IsN.mk' (mod_le hM (by omega))
  unfold hasB
  rw [decide_eq_true hg, Bool.true_and, gpS, h, mo_zero, hn.valid, hn.nv, Bool.true_and]
  refine el_pr hm2 fun p hp => ?_
  obtain ⟨k, hk, rfl⟩ := List.mem_iff_getElem.1 hp
  have hk' := hk
  unfold prs at hk'
  rw [List.length_zipWith] at hk'
  rw [prs_get hk (by omega) (by omega)]
  have e1 : l.getD k ⟨#[]⟩ = l[k]'(by omega) := by simp [List.getD_eq_getElem?_getD, show k < l.length by omega]
  rw [e1]
  exact el_sb hm2 (List.all_eq_true.1 hel _ (List.getElem_mem _)) _
theorem gm_ok {M O : ByteArray} {x y : Nat} (hg : gE M O = 0) (hx : elN (nv M) (nv O) x = true) (hy : elN (nv M) (nv O) y = true) : gmE M O (enc x) (enc y) = 0 ∧ gmS M O (enc x) (enc y) = enc (x * y % nv M) := by
  obtain ⟨hM, _, hm2, _⟩ := gE_ok hg
  have nx : IsN (enc x) x := IsN.mk' (Nat.le_trans (blen_mono (Nat.le_of_lt (el_lt hx))) hM.le)
  have ny : IsN (enc y) y := IsN.mk' (Nat.le_trans (blen_mono (Nat.le_of_lt (el_lt hy))) hM.le)
  have h0 : gmE M O (enc x) (enc y) = 0 := by
    unfold gmE
    rw [ck_last ⟨by simp [nx.valid, ny.valid], by simp⟩ hg]
    simp [nx.nv, ny.nv, hx, hy]
  exact ⟨h0, by rw [gmS, h0, mo_zero, nx.nv, ny.nv]⟩
end Go.Proofs.YtdlbnioidfhhcaaGreat
