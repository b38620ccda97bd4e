/- dominolaw13: the law Agrees. -/
import Derived.Test.YtmbenndmkacjpaaPwH
import Derived.Test.YtmbenndmkacjpaaPwI
import Derived.Deep.RegionHeld3
namespace Go.Proofs.Ytmbenndmkacjpaa
open Go.RowKit Num
set_option maxRecDepth 20000
set_option linter.unusedVariables false
theorem keep5 {w1 w2 w3 : World} {a1 a2 a3 a4 a5 : Addr} {v1 v2 v3 v4 v5 : Value} (h : w2.cell? a1 = some v1 ∧ w2.cell? a2 = some v2 ∧ w2.cell? a3 = some v3 ∧ w2.cell? a4 = some v4 ∧ w2.cell? a5 = some v5 ∧ Below w1.heap.size w1 w2) (b : Below w2.heap.size w2 w3) :
    w3.cell? a1 = some v1 ∧ w3.cell? a2 = some v2 ∧ w3.cell? a3 = some v3 ∧ w3.cell? a4 = some v4 ∧ w3.cell? a5 = some v5 ∧ Below w1.heap.size w1 w3 :=
  ⟨cell_keepB h.1 b, cell_keepB h.2.1 b, cell_keepB h.2.2.1 b, cell_keepB h.2.2.2.1 b, cell_keepB h.2.2.2.2.1 b, h.2.2.2.2.2.trans (b.mono h.2.2.2.2.2.size)⟩
/-- the cells of integers -/
def icl (L : List (Bool × ByteArray)) : List Value := L.flatMap fun e => [.bool e.1, .string e.2]
theorem icl_len : ∀ L : List (Bool × ByteArray), (icl L).length = L.length * 2
  | [] => rfl
  | e :: L => by show (_ :: _ :: icl L).length = _; simp [icl_len L]; omega
theorem icl_append (L K : List (Bool × ByteArray)) : icl (L ++ K) = icl L ++ icl K := by simp [icl]
theorem icl_get : ∀ (L : List (Bool × ByteArray)) (k : Nat) (hk : k < L.length), (icl L)[k * 2]? = some (.bool L[k].1) ∧ (icl L)[k * 2 + 1]? = some (.string L[k].2)
  | e :: L, 0, _ => ⟨rfl, rfl⟩
  | e :: L, k + 1, h => by
    have := icl_get L k (by simpa using h)
    refine ⟨?_, ?_⟩
    · show (_ :: _ :: icl L)[(k + 1) * 2]? = _
      rw [show (k + 1) * 2 = k * 2 + 1 + 1 by omega, List.getElem?_cons_succ, List.getElem?_cons_succ, this.1]; rfl
    · show (_ :: _ :: icl L)[(k + 1) * 2 + 1]? = _
      rw [show (k + 1) * 2 + 1 = k * 2 + 1 + 1 + 1 by omega, List.getElem?_cons_succ, List.getElem?_cons_succ, this.2]; rfl
theorem own_NS {W : World} {K n : Nat} {e : TypeId} {v : Value} {L : List ByteArray} (h : W.ownsRow K e 1 v n (L.map Value.string)) : ∃ ao c, v = .slice ao n c ∧ NS W ao L := by
  have hlen : L.length = n := by have := h.1; simpa using this
  have hh := h
  rcases h.2 with ⟨h1, h2⟩ | ⟨g, cap, cur, rfl, _⟩
  · subst h2
    exact ⟨none, 0, h1, fun k hk => by omega⟩
  · refine ⟨_, cap, rfl, fun k hk => ⟨g, 0, rfl, ?_⟩⟩
    have := hh.cells (g := g) rfl k (.string L[k]) (by simp [hk])
    rw [addr_add] at this
    rw [Nat.zero_add]; exact this
theorem own_IS {W : World} {K n : Nat} {e : TypeId} {v : Value} {L : List (Bool × ByteArray)} (h : W.ownsRow K e 2 v n (icl L)) : ∃ ao c, v = .slice ao n c ∧ IS W ao L := by
  have hlen : L.length = n := by have := h.1; rw [icl_len] at this; omega
  have hh := h
  rcases h.2 with ⟨h1, h2⟩ | ⟨g, cap, cur, rfl, _⟩
  · subst h2
    exact ⟨none, 0, h1, fun k hk => by omega⟩
  · refine ⟨_, cap, rfl, fun k hk => ⟨g, 0, rfl, ?_, ?_⟩⟩
    · have := hh.cells (g := g) rfl (k * 2) _ (icl_get L k hk).1
      rw [addr_add] at this
      rw [Nat.zero_add]; exact this
    · have := hh.cells (g := g) rfl (k * 2 + 1) _ (icl_get L k hk).2
      rw [addr_add] at this
      rw [Nat.zero_add]; exact this
/-- a row of another type stays -/
theorem own_other {W W' : World} {K e1 e2 s1 s2 n1 n2 : Nat} {v1 v2 : Value} {xs ys : List Value} (h : W.ownsRow K e1 s1 v1 n1 xs) (h2 : W.ownsRow K e2 s2 v2 n2 ys) (hne : e1 ≠ e2) {o : Obj} (hg : (W.alloc o).grownBy W' v2.ownBlock) : W'.ownsRow K e1 s1 v1 n1 xs := by
  rcases h with ⟨h0, h | ⟨g, cap, cur, a1, a2, a3, a4⟩⟩
  · exact ⟨h0, .inl h⟩
  · have hl := (Array.getElem?_eq_some_iff.1 a3).1
    refine ⟨h0, .inr ⟨g, cap, cur, a1, a2, ?_, a4⟩⟩
    rw [hg.block g (by simp; omega) (fun e => by
      obtain ⟨_, cur', b3⟩ := own_ge h2 g e.symm
      rw [a3] at b3
      injection b3 with b3
      injection b3 with _ b3 _
      exact hne b3), Below.heap_alloc _ _ _ hl]
    exact a3
theorem info_int2 : (Try.prog.info? 40).map (fun i => (i.zero, i.size, i.bytes)) = some (some (.agg #[.bool false, .string ⟨#[]⟩]), 2, 24) := by kernel_rfl
theorem two_cellV {W : World} {g : Nat} {v u : Value} (h : W.cell? ⟨g, 0, none⟩ = some v) (h1 : W.cell? ⟨g, 1, none⟩ = some u) : ∀ j x, [v, u][j]? = some x → W.cell? ((⟨g, 0, none⟩ : Addr).add j) = some x := by
  intro j x hj
  rw [addr_add]
  match j, hj with
  | 0, hj => simp at hj; subst hj; exact h
  | 1, hj => simp at hj; subst hj; exact h1
theorem all_rev {α : Type} (p : α → Bool) (l : List α) : l.reverse.all p = l.all p := by simp
theorem gp_rev {M O : ByteArray} {l : List ByteArray} {es : List (Bool × ByteArray)} (h : gpE M O l es = 0) : gpE M O l.reverse es.reverse = 0 ∧ gpS M O l.reverse es.reverse = gpS M O l es := by
  have h1 : gpE M O l.reverse es.reverse = 0 := by
    rw [← h]
    unfold gpE ckE
    simp only [all_rev, List.length_reverse]
  refine ⟨h1, ?_⟩
  obtain ⟨_, _, hs, _⟩ := ck_ok h
  have hs := of_decide_eq_true hs
  rw [gpS, h1, mo_zero, gpS, h, mo_zero]
  unfold prs
  rw [← List.reverse_zipWith hs, pr_reverse]
theorem gpS_ok {M O : ByteArray} {l : List ByteArray} {es : List (Bool × ByteArray)} (h : gpE M O l es = 0) : hasB M O (gpS M O l es) = true := by
  obtain ⟨hv, hg, hs, hel⟩ := ck_ok h
  obtain ⟨hM, _, hm2, _⟩ := gE_ok hg
  have hn : IsN (enc (pr (prs (nv M) l es) % nv M)) (pr (prs (nv M) l es) % nv M) := IsN.mk' (mod_le hM (by omega))
  unfold hasB
  rw [decide_eq_true hg, Bool.true_and, gpS, h, mo_zero, hn.valid, hn.nv, Bool.true_and]
  refine el_pr hm2 fun p hp => ?_
  obtain ⟨k, hk, rfl⟩ := List.mem_iff_getElem.1 hp
  have hk' := hk
  unfold prs at hk'
  rw [List.length_zipWith] at hk'
  rw [prs_get hk (by omega) (by omega)]
  have e1 : l.getD k ⟨#[]⟩ = l[k]'(by omega) := by simp [List.getD_eq_getElem?_getD, show k < l.length by omega]
  rw [e1]
  exact el_sb hm2 (List.all_eq_true.1 hel _ (List.getElem_mem _)) _
theorem gm_ok {M O : ByteArray} {x y : Nat} (hg : gE M O = 0) (hx : elN (nv M) (nv O) x = true) (hy : elN (nv M) (nv O) y = true) : gmE M O (enc x) (enc y) = 0 ∧ gmS M O (enc x) (enc y) = enc (x * y % nv M) := by
  obtain ⟨hM, _, hm2, _⟩ := gE_ok hg
  have nx : IsN (enc x) x := IsN.mk' (Nat.le_trans (blen_mono (Nat.le_of_lt (el_lt hx))) hM.le)
  have ny : IsN (enc y) y := IsN.mk' (Nat.le_trans (blen_mono (Nat.le_of_lt (el_lt hy))) hM.le)
  have h0 : gmE M O (enc x) (enc y) = 0 := by
    unfold gmE
    rw [ck_last ⟨by simp [nx.valid, ny.valid], by simp⟩ hg]
    simp [nx.nv, ny.nv, hx, hy]
  exact ⟨h0, by rw [gmS, h0, mo_zero, nx.nv, ny.nv]⟩
set_option maxHeartbeats 16000000 in
theorem agrees_walk (M O : ByteArray) (ao bo : Option Addr) (cl ce n1 n2 : Nat) (l : List ByteArray) (es : List (Bool × ByteArray)) (w : World) (hl : NS w ao l) (he : IS w bo es) (hn1 : l.length = n1) (hn2 : es.length = n2) (h1 : n1 ≤ maxLen) (h2 : n2 ≤ maxLen) (h3 : ∀ x ∈ l, x.size ≤ maxLen) (h4 : ∀ x ∈ es, x.2.size ≤ maxLen) :
    Calls Try.prog 4 #[.agg #[.string M, .string O], .slice ao n1 cl, .slice bo n2 ce] w fun e w' => e = .returned (.bool true) ∧ Below w.heap.size w w' := by
  have HF := Lib.hid (fun w a b => few13_any M O ao bo cl ce n1 n2 l es w a b hn1 hn2 h1 h2 h3 h4)
  clear h1 h2 h3 h4
  have hb := (Below.refl w.heap.size w).alloc (Nat.le_refl _) (.cells #[.string M, .string O] 24)
  have hG := GB.new w M O
  go_enter Try.func4, Try.ntmps4
  go_wp2_with fail
  have hl0 := Lib.hid (hl.below hb (Nat.le_refl _))
  have he0 := Lib.hid (he.below hb (Nat.le_refl _))
  generalize w.alloc _ = w0 at hb hG hl0 he0 ⊢
  clear hl he
  cases hf : few13 M O l es
  · refine (HF.out _ hl0.out he0.out).mono ?_; rw [hf]; rintro e w1 ⟨rfl, b1⟩
    have hb1 := hb.trans (b1.mono hb.size)
    go_wp2_with fail
    refine (awakeG _).mono ?_; rintro e wa ⟨rfl, ba⟩
    go_wp2_with fail
    go_ret
    exact ⟨rfl, hb1.trans (ba.mono hb1.size)⟩
  refine (HF.out _ hl0.out he0.out).mono ?_; rw [hf]; rintro e w1 ⟨rfl, b1⟩
  have hb1 := hb.trans (b1.mono hb.size)
  have hG1 := hG.below b1 hG.lt
  have hl1 := Lib.hid (hl0.out.below b1 (Nat.le_refl _))
  have he1 := Lib.hid (he0.out.below b1 (Nat.le_refl _))
  have h88 : n1 ≤ 8 ∧ n2 ≤ 8 := by
    unfold few13 at hf
    rw [Bool.and_eq_true, Bool.and_eq_true, Bool.and_eq_true, decide_eq_true_eq, decide_eq_true_eq] at hf
    omega
  have HP := Lib.hid (fun w a b => gProduct_any M O ao bo cl ce n1 n2 l es w a b hn1 hn2 (by omega) (by omega))
  clear hf HF hb hG hl0 he0 b1
  have c0 := hG1.c0
  have c1 := hG1.c1
  go_wp2_with fail
  by_cases h0 : gpE M O l es = 0
  rotate_left
  · have hk : gpE M O l es = 3 ∨ gpE M O l es = 6 ∨ gpE M O l es = 13 := (ck_cases M O l es _).resolve_left h0
    have hS : gpS M O l es = ⟨#[]⟩ := by rw [gpS, mo_bad h0]
    rw [hS] at HP
    clear hS h0
    rcases hk with hk | hk | hk
    all_goals
      rw [hk] at HP
      clear hk
      refine (HP.out _ hl1.out he1.out).mono ?_; rintro e w2 ⟨rfl, b2⟩
      have hb2 := hb1.trans (b2.mono hb1.size)
      clear c0 c1 HP
      go_wp2_with fail
      refine (awakeG _).mono ?_; rintro e wa ⟨rfl, ba⟩
      go_wp2_with fail
      go_ret
      exact ⟨rfl, hb2.trans (ba.mono hb2.size)⟩
  obtain ⟨hv, hg, hs, hel⟩ := ck_ok h0
  have hs := of_decide_eq_true hs
  obtain rfl : n2 = n1 := by omega
  obtain ⟨n, rfl⟩ : ∃ n, n2 = n := ⟨_, rfl⟩
  obtain ⟨hM, _, hm2, _⟩ := gE_ok hg
  have HREV := Lib.hid (fun ao2 bo2 cl2 ce2 w (a : NS w ao2 l.reverse) (b : IS w bo2 es.reverse) => by
    have h := gProduct_any M O ao2 bo2 cl2 ce2 n2 n2 l.reverse es.reverse w a b (by rw [List.length_reverse]; exact hn1) (by rw [List.length_reverse]; exact hn2) (by omega) (by omega)
    rw [(gp_rev h0).1, (gp_rev h0).2] at h
    exact h)
  have hHS := gpS_ok h0
  have hX : gpS M O l es = enc (pr ((prs (nv M) l es).take n2) % nv M) := by
    rw [gpS, h0, mo_zero, List.take_of_length_le (by rw [prs_len hn1 hn2]; omega)]
  have HEX : Hid (∀ k (hk : k < (prs (nv M) l es).length) w, Calls Try.prog 12 #[.agg #[.string M, .string O], .string (l.getD k ⟨#[]⟩), .agg #[.bool (es.getD k (false, ⟨#[]⟩)).1, .string (es.getD k (false, ⟨#[]⟩)).2]] w fun e w' => e = .returned (.tuple #[.string (enc ((prs (nv M) l es)[k].1 ^ (prs (nv M) l es)[k].2 % nv M)), .int .i64 0]) ∧ Below w.heap.size w w') := fun k hk w => by
    have hkn : k < n2 := by rw [prs_len hn1 hn2] at hk; exact hk
    have e1 : l.getD k ⟨#[]⟩ = l[k]'(by omega) := by simp [List.getD_eq_getElem?_getD, show k < l.length by omega]
    have e2 : es.getD k (false, ⟨#[]⟩) = es[k]'(by omega) := by simp [List.getD_eq_getElem?_getD, show k < es.length by omega]
    have a1 := List.all_eq_true.1 hv.1 _ (List.getElem_mem (show k < l.length by omega))
    have a2 := List.all_eq_true.1 hv.2 _ (List.getElem_mem (show k < es.length by omega))
    have a3 := List.all_eq_true.1 hel _ (List.getElem_mem (show k < l.length by omega))
    have hh : hasB M O (l.getD k ⟨#[]⟩) = true := by
      unfold hasB
      rw [e1, decide_eq_true hg, a1]
      simpa using a3
    have hiv : ivB ((es.getD k (false, ⟨#[]⟩)).1, (es.getD k (false, ⟨#[]⟩)).2) = true := by rw [e2]; exact a2
    have h := gExp_any M O (l.getD k ⟨#[]⟩) (es.getD k (false, ⟨#[]⟩)).1 (es.getD k (false, ⟨#[]⟩)).2 w
    rw [gpE_one hh hiv, gpS_one hh hiv] at h
    rw [prs_get hk (by omega) (by omega)]
    exact h
  have helL : ∀ p ∈ prs (nv M) l es, elN (nv M) (nv O) p.1 = true := fun p hp => by
    obtain ⟨k, hk, rfl⟩ := List.mem_iff_getElem.1 hp
    have hkn : k < n2 := by rw [prs_len hn1 hn2] at hk; exact hk
    rw [prs_get hk (by omega) (by omega)]
    have e1 : l.getD k ⟨#[]⟩ = l[k]'(by omega) := by simp [List.getD_eq_getElem?_getD, show k < l.length by omega]
    rw [e1]
    exact el_sb hm2 (List.all_eq_true.1 hel _ (List.getElem_mem _)) _
  have HMU : Hid (∀ k (hk : k < (prs (nv M) l es).length) w, Calls Try.prog 16 #[.agg #[.string M, .string O], .string (enc (pr ((prs (nv M) l es).take k) % nv M)), .string (enc ((prs (nv M) l es)[k].1 ^ (prs (nv M) l es)[k].2 % nv M))] w fun e w' => e = .returned (.tuple #[.string (enc (pr ((prs (nv M) l es).take (k + 1)) % nv M)), .int .i64 0]) ∧ Below w.heap.size w w') := fun k hk w => by
    have h := gMul_any M O (enc (pr ((prs (nv M) l es).take k) % nv M)) (enc ((prs (nv M) l es)[k].1 ^ (prs (nv M) l es)[k].2 % nv M)) w
    have hgm := gm_ok hg (el_pr hm2 (L := (prs (nv M) l es).take k) fun p hp => helL p (List.mem_of_mem_take hp)) (el_pow hm2 (helL _ (List.getElem_mem hk)) (prs (nv M) l es)[k].2)
    rw [hgm.1, hgm.2, ← Nat.mul_mod, ← pr_take_succ _ k hk] at h
    exact h
  have HLN := Lib.hid (prs_len (m := nv M) hn1 hn2)
  rw [h0] at HP
  have h1m : 1 % nv M = 1 := Nat.mod_eq_of_lt (by omega)
  obtain ⟨m, hm⟩ : ∃ m, nv M = m := ⟨_, rfl⟩
  rw [hm] at HEX HMU HLN hX h1m
  obtain ⟨L, hL⟩ : ∃ L, prs m l es = L := ⟨_, rfl⟩
  rw [hL] at HEX HMU HLN hX
  rw [hX] at HP HREV hHS
  have HHS := Lib.hid hHS
  have H1M := Lib.hid h1m
  have HNN := Lib.hid (And.intro hn1 hn2)
  clear hHS hX h0 hv hg hs hel hM hm2 hm hL hn1 hn2 helL h1m
  refine (HP.out _ hl1.out he1.out).mono ?_; rintro e w3 ⟨rfl, b3⟩
  have hG3 := hG1.below b3 hG1.lt
  have hl3 := Lib.hid (hl1.out.below b3 (Nat.le_refl _))
  have he3 := Lib.hid (he1.out.below b3 (Nat.le_refl _))
  have hb3 := hb1.trans (b3.mono hb1.size)
  clear c0 c1 hG1 hl1 he1 hb1 b3 HP
  go_wp2_with fail
  obtain ⟨i0, hi, hy0, hy1, hy2⟩ := info_parts info_nat
  obtain ⟨i1, hj, hx0, hx1, hx2⟩ := info_parts info_int2
  have HINF := Lib.hid (And.intro (And.intro hi (And.intro hy0 (And.intro hy1 hy2))) (And.intro hj (And.intro hx0 (And.intro hx1 hx2))))
  clear hi hy0 hy1 hy2 hj hx0 hx1 hx2
  go_loopw [9, 10, 11, 12] (fun vy vb vt vi wr => ∃ k : Nat, k ≤ n2 ∧ vi = .int .i64 (k : Int) ∧ vy = .string (enc (pr (L.take k) % m)) ∧ Hid (wr.ownsRow w3.heap.size 22 1 vb k ((l.reverse.take k).map Value.string)) ∧ Hid (wr.ownsRow w3.heap.size 40 2 vt k (icl (es.reverse.take k))) ∧ Below w3.heap.size w3 wr) (fun _ _ _ vi _ => n2 - (intOf vi).toNat)
  case atStart => exact ⟨0, by omega, rfl, by rw [List.take_zero, show pr [] = 1 from rfl, H1M.out, enc_I], World.ownsRow_nil _ _ _ _, World.ownsRow_nil _ _ _ _, Below.refl _ _⟩
  case round =>
    obtain ⟨k, hk, rfl, rfl, hB, hT, hbr⟩ := hrel
    have zr := hbr.size
    by_cases hlt : k < n2
    · have hG4 := hG3.below hbr hG3.lt
      have c0 := hG4.c0
      have c1 := hG4.c1
      obtain ⟨b1, o1, rfl, e1⟩ := hl3.out.get (k := k) (by have := HNN.out.1; omega)
      obtain ⟨b2, o2, rfl, e2, e3⟩ := he3.out.get (k := k) (by have := HNN.out.2; omega)
      have e1 := cell_keepB e1 hbr
      have e2 := cell_keepB e2 hbr
      have e3 := cell_keepB e3 hbr
      have hkL : k < L.length := by rw [HLN.out]; exact hlt
      have HE1 := Lib.hid (HEX.out k hkL)
      have HM1 := Lib.hid (HMU.out k hkL)
      obtain ⟨X, hX⟩ : ∃ X, l.getD k ⟨#[]⟩ = X := ⟨_, rfl⟩
      obtain ⟨⟨ng, t⟩, hE⟩ : ∃ E, es.getD k (false, ⟨#[]⟩) = E := ⟨_, rfl⟩
      rw [hX, hE] at HE1
      rw [hX] at e1
      rw [hE] at e2 e3
      obtain ⟨z, hz⟩ : ∃ z, L[k].1 ^ L[k].2 % m = z := ⟨_, rfl⟩
      rw [hz] at HE1 HM1
      obtain ⟨Y, hY⟩ : ∃ Y, enc (pr (L.take k) % m) = Y := ⟨_, rfl⟩
      rw [hY] at HM1 ⊢
      obtain ⟨Z, hZ⟩ : ∃ Z, enc z = Z := ⟨_, rfl⟩
      rw [hZ] at HM1 HE1
      try simp only [] at e2 e3
      have HE2 : Hid (∀ w, Calls Try.prog 12 #[.agg #[.string M, .string O], .string X, .agg #[.bool ng, .string t]] w fun e w' => e = .returned (.tuple #[.string Z, .int .i64 0]) ∧ Below w.heap.size w w') := HE1
      clear hX hE hz hY hZ HE1
      have kk : (0 : Int) ≤ (k : Int) := by omega
      have kl : (k : Int) < (n2 : Int) := by omega
      go_wp2_with fail
      go_region_held3 (fun w' => w'.cell? ⟨w.heap.size, 0, none⟩ = some (.string M) ∧ w'.cell? ⟨w.heap.size, 1, none⟩ = some (.string O) ∧ w'.cell? ⟨b1, o1 + k, none⟩ = some (.string X) ∧ w'.cell? ⟨b2, o2 + k * 2, none⟩ = some (.bool ng) ∧ w'.cell? ⟨b2, o2 + k * 2 + 1, none⟩ = some (.string t) ∧ Below wr.heap.size wr w')
        (first | exact ⟨c0, c1, e1, e2, e3, (Below.refl _ wr).drew⟩ | (refine keep5 ?_ bn; assumption))
        (first | (go_at_call 12; (with_reducible refine (HE2.out _).mono ?_); rintro e wn ⟨rfl, bn⟩))
      go_split_ands
      have hbn : Below wr.heap.size wr wn := by assumption
      have d0 : wn.cell? ⟨w.heap.size, 0, none⟩ = some (.string M) := by assumption
      have d1 : wn.cell? ⟨w.heap.size, 1, none⟩ = some (.string O) := by assumption
      clear c0 c1 e1 e2 e3 HE2 bn kk kl
      go_wp2_with fail
      refine (HM1.out _).mono ?_; rintro e w5 ⟨rfl, b5⟩
      have hbw : Below wr.heap.size wr w5 := hbn.trans (b5.mono hbn.size)
      have hb5 := hbr.trans (hbw.mono zr)
      have hB5 := Lib.hid (own_keep hbw hB.out)
      have hT5 := Lib.hid (own_keep hbw hT.out)
      have z5 := hb5.size
      obtain ⟨j, hj⟩ : ∃ j, n2 - 1 - k = j := ⟨_, rfl⟩
      have hjn : j < n2 := by omega
      have hji : (n2 : Int) - 1 - (k : Int) = (j : Int) := by omega
      obtain ⟨b1', o1', hbb1, f1⟩ := hl3.out.get (k := j) (by have := HNN.out.1; omega)
      obtain ⟨b2', o2', hbb2, f2, f3⟩ := he3.out.get (k := j) (by have := HNN.out.2; omega)
      cases hbb1
      cases hbb2
      have g1 := cell_keepB f1 hb5
      obtain ⟨X, hX⟩ : ∃ X, l.getD j ⟨#[]⟩ = X := ⟨_, rfl⟩
      obtain ⟨⟨ng, t⟩, hE⟩ : ∃ E, es.getD j (false, ⟨#[]⟩) = E := ⟨_, rfl⟩
      rw [hX] at f1 g1
      rw [hE] at f2 f3
      try simp only [] at f2 f3
      have hrl : (l.reverse.take (k + 1)).map Value.string = (l.reverse.take k).map Value.string ++ [.string X] := by
        have hk' : k < l.reverse.length := by rw [List.length_reverse]; have := HNN.out.1; omega
        have hx : l[j]'(by have := HNN.out.1; omega) = X := by rw [← hX]; simp [List.getD_eq_getElem?_getD, show j < l.length by have := HNN.out.1; omega]
        rw [List.take_succ_eq_append_getElem hk', List.map_append, List.getElem_reverse]
        simp only [HNN.out.1, hj, hx]
        rfl
      have hre : icl (es.reverse.take (k + 1)) = icl (es.reverse.take k) ++ [.bool ng, .string t] := by
        have hk' : k < es.reverse.length := by rw [List.length_reverse]; have := HNN.out.2; omega
        have hx : es[j]'(by have := HNN.out.2; omega) = (ng, t) := by rw [← hE]; simp [List.getD_eq_getElem?_getD, show j < es.length by have := HNN.out.2; omega]
        rw [List.take_succ_eq_append_getElem hk', icl_append, List.getElem_reverse]
        simp only [HNN.out.2, hj, hx]
        rfl
      have HRL := Lib.hid hrl
      have HRE := Lib.hid hre
      have hA := (Below.refl _ w5).alloc (Nat.le_refl _) (.cells #[.string X] 22)
      have hBa := Lib.hid (own_keep hA hB5.out)
      have hNC := Lib.hid (one_cellV (W := w5.alloc (.cells #[.string X] 22)) (g := w5.heap.size) (v := .string X) (by rw [Lib.cell_of_heap (heap_alloc_new w5 _)]; rfl))
      have hKb : w3.heap.size ≤ (w5.alloc (.cells #[.string X] 22)).heap.size := by simp; omega
      have HF2 := Lib.hid (And.intro f2 f3)
      clear hB hT hbr hbw hbn b5 d0 d1 f1 f2 f3 hX hE hrl hre HM1 hj zr
      go_wp2_with (first
        | (at_builtin; refine wpList_append_own _ rfl (.tmp 72) (.tmp 81) 25 rfl w3.heap.size 22 i0 (.string ⟨#[]⟩) 1 16 Try.underlying25 HINF.out.1.1 HINF.out.1.2.1 HINF.out.1.2.2.1 HINF.out.1.2.2.2 rfl (by decide) u10 k ((l.reverse.take k).map Value.string) rfl hBa.out ⟨w5.heap.size, 0, none⟩ 1 1 [.string X] rfl rfl hNC.out ?o1 ?o2 ?o3 hKb ?_; (case o1 => simp [Value.oneCell']); (case o2 => unfold maxLen; omega); (case o3 => omega); intro v1 w9 hown hgrow _; have hb9 : Below w3.heap.size w3 w9 := (hb5.alloc z5 _).grown hgrow (by simp; omega) (fun q e => (own_ge hB5.out q e).1); have hT9 := Lib.hid (own_other hT5.out hB5.out (by decide) hgrow); have z9 := hb9.size; have hA9 := (Below.refl _ w9).alloc (Nat.le_refl _) (.cells #[.bool ng, .string t] 40); have hTa := Lib.hid (own_keep hA9 hT9.out); have hNC9 := Lib.hid (two_cellV (W := w9.alloc (.cells #[.bool ng, .string t] 40)) (g := w9.heap.size) (v := .bool ng) (u := .string t) (by rw [Lib.cell_of_heap (heap_alloc_new w9 _)]; rfl) (by rw [Lib.cell_of_heap (heap_alloc_new w9 _)]; rfl)); have hKb9 : w3.heap.size ≤ (w9.alloc (.cells #[.bool ng, .string t] 40)).heap.size := (by simp; omega); have k2 := cell_keepB HF2.out.1 hb9; have k3 := cell_keepB HF2.out.2 hb9; rw [← HRL.out] at hown; have HOWN := Lib.hid hown; clear hown hBa hNC hgrow)
        | (at_builtin; refine wpList_append_own _ rfl (.tmp 83) (.tmp 92) 43 rfl w3.heap.size 40 i1 (.agg #[.bool false, .string ⟨#[]⟩]) 2 24 Try.underlying43 HINF.out.2.1 HINF.out.2.2.1 HINF.out.2.2.2.1 HINF.out.2.2.2.2 rfl (by decide) u11 k (icl (es.reverse.take k)) rfl hTa.out ⟨w9.heap.size, 0, none⟩ 1 1 [.bool ng, .string t] rfl rfl hNC9.out ?o4 ?o5 ?o6 hKb9 ?_; (case o4 => simp [Value.oneCell']); (case o5 => unfold maxLen; omega); (case o6 => omega); intro v2 w10 hown2 hgrow2 _; have hb10 : Below w3.heap.size w3 w10 := (hb9.alloc z9 _).grown hgrow2 (by simp; omega) (fun q e => (own_ge hT9.out q e).1); have HB10 := Lib.hid (own_other HOWN.out hT9.out (by decide) hgrow2); rw [← HRE.out] at hown2; have HT10 := Lib.hid hown2; clear hown2 hgrow2))
      exact ⟨⟨k + 1, by omega, by go_num, rfl, HB10.out, HT10.out, hb10⟩, by simp [intOf]; omega⟩
    · obtain rfl : n2 = k := by omega
      rw [List.take_of_length_le (by rw [List.length_reverse]; have := HNN.out.1; omega)] at hB
      rw [List.take_of_length_le (by rw [List.length_reverse]; have := HNN.out.2; omega)] at hT
      obtain ⟨aB, cB, rfl, hNB⟩ := own_NS hB.out
      obtain ⟨aT, cT, rfl, hIT⟩ := own_IS hT.out
      have hG4 := hG3.below hbr hG3.lt
      have c0 := hG4.c0
      have c1 := hG4.c1
      have HR := Lib.hid (HREV.out aB aT cB cT wr hNB hIT)
      obtain ⟨S, hS⟩ : ∃ S, enc (pr (L.take n2) % m) = S := ⟨_, rfl⟩
      have hSS : hasB M O S = true := by rw [← hS]; exact HHS.out
      rw [hS] at HR ⊢
      have hb4 := hb3.trans (hbr.mono hb3.size)
      have HSS := Lib.hid hSS
      clear hS hSS hB hT hNB hIT hbr hlt HREV HEX HMU
      go_wp2_with fail
      refine (HR.out).mono ?_; rintro e w5 ⟨rfl, b5⟩
      have hG5 := hG4.below b5 hG4.lt
      have hb5 := hb4.trans (b5.mono hb4.size)
      clear c0 c1 hG4 hb4 b5 HR
      have c0 := hG5.c0
      have c1 := hG5.c1
      go_wp2_with fail
      refine (gHas_any _ _ _ _).mono ?_; rw [HSS.out]; rintro e w6 ⟨rfl, b6⟩
      have hb6 := hb5.trans (b6.mono hb5.size)
      go_wp2_with fail
      refine (awakeG _).mono ?_; rintro e wa ⟨rfl, ba⟩
      go_wp2_with fail
      go_ret
      exact ⟨rfl, hb6.trans (ba.mono hb6.size)⟩
end Go.Proofs.Ytmbenndmkacjpaa
