import Derived.Test.YtdlbnioidfhhcaaGreatSgA
import Derived.Laws.EntriesVeiled
/- sigma.bounds: the limits of all variables. -/
namespace Go.Proofs.YtdlbnioidfhhcaaGreat
open Go.RowKit Num
set_option maxRecDepth 20000
set_option linter.unusedVariables false
/-- a variable modulo an order that is too small -/
def lowB (C q : ByteArray) (v : ByteArray) : Bool := emB v && decide (nv q < nv C)
/-- the error of a rule and a statement -/
def bdE (C L : ByteArray) (S : StP) : Int :=
  if validB C = true ∧ validB L = true then (if lckE S = 0 then (if nv C < 2 ∨ nv L < 2 then 2 else if S.V.any (lowB C (ordL S.G)) = true then 2 else 0) else lckE S) else 3
/-- the limits of a variable -/
def limP (C L q b : ByteArray) : ByteArray × ByteArray := if emB b = true then (q, q) else (enc (nv L * nv C * nv b), enc (nv L * nv C * nv b - (nv C - 1) * (nv b - 1)))
def lcl (L : List (ByteArray × ByteArray)) : List Value := L.flatMap fun e => [.string e.1, .string e.2]
theorem lcl_len : ∀ L : List (ByteArray × ByteArray), (lcl L).length = L.length * 2
  | [] => rfl
  | e :: L => by
    show ((.string e.1 :: .string e.2 :: lcl L) : List Value).length = _
    rw [List.length_cons, List.length_cons, lcl_len L, List.length_cons]; omega
theorem lcl_append (L K : List (ByteArray × ByteArray)) : lcl (L ++ K) = lcl L ++ lcl K := by simp [lcl]
theorem lcl_get : ∀ (L : List (ByteArray × ByteArray)) (k : Nat) (hk : k < L.length), (lcl L)[k * 2]? = some (.string L[k].1) ∧ (lcl L)[k * 2 + 1]? = some (.string L[k].2)
  | e :: L, 0, _ => ⟨rfl, rfl⟩
  | e :: L, k + 1, hk => by
    have h := lcl_get L k (by simpa using hk)
    have e1 : lcl (e :: L) = .string e.1 :: .string e.2 :: lcl L := rfl
    rw [e1, show (k + 1) * 2 = k * 2 + 1 + 1 by omega]
    simpa using h
theorem own_GSl {W : World} {K n : Nat} {e : TypeId} {v : Value} {L : List (ByteArray × ByteArray)} (h : W.ownsRow K e 2 v n (lcl L)) : ∃ ao c, v = .slice ao n c ∧ GSl W ao L := by
  have hlen : L.length = n := by have := h.1; rw [lcl_len] at this; omega
  have hh := h
  rcases h.2 with ⟨h1, h2⟩ | ⟨g, cap, cur, rfl, _⟩
  · subst h2
    exact ⟨none, 0, h1, fun k hk => by omega⟩
  · refine ⟨_, cap, rfl, fun k hk => ⟨g, 0, rfl, ?_, ?_⟩⟩
    · have := hh.cells (g := g) rfl (k * 2) _ (lcl_get L k hk).1
      rw [addr_add] at this
      rw [Nat.zero_add]; exact this
    · have := hh.cells (g := g) rfl (k * 2 + 1) _ (lcl_get L k hk).2
      rw [addr_add] at this
      rw [Nat.zero_add]; exact this
theorem info_lim3 : (Tryz.prog.info? 122).map (fun i => (i.zero, i.size, i.bytes)) = some (some (.agg #[.string ⟨#[]⟩, .string ⟨#[]⟩]), 2, 32) := by kernel_rfl
/-- the row of limits -/
structure RL (w0 w : World) (v : Value) (k : Nat) (L : List (ByteArray × ByteArray)) : Prop where
  o : w.ownsRow w0.heap.size 122 2 v k (lcl L)
  bl : Below w0.heap.size w0 w
section
variable {w0 w w' : World} {v v' : Value} {k : Nat} {L : List (ByteArray × ByteArray)} {s t : ByteArray}
theorem RL.start (w0 : World) : RL w0 w0 (.slice none 0 0) 0 [] := ⟨⟨rfl, .inl ⟨rfl, rfl⟩⟩, Below.refl _ _⟩
theorem RL.below (h : RL w0 w v k L) (hb : Below w.heap.size w w') : RL w0 w' v k L := ⟨own_keepL hb h.o, h.bl.trans (hb.mono h.bl.size)⟩
theorem RL.alloc (h : RL w0 w v k L) (o : Obj) : RL w0 (w.alloc o) v k L := h.below ((Below.refl _ w).alloc (Nat.le_refl _) o)
theorem RL.app (h : RL w0 w v k L) (hg : w.grownBy w' v.ownBlock) (ho : w'.ownsRow w0.heap.size 122 2 v' (k + 1) (lcl L ++ [.string s, .string t])) : RL w0 w' v' (k + 1) (L ++ [(s, t)]) :=
  ⟨by rw [lcl_append]; exact ho, h.bl.grown hg h.bl.size (fun q e => (own_ge h.o q e).1)⟩
end
/-- a rule in a variable -/
def RUB (w : World) (b : Nat) (s t : ByteArray) : Prop := w.heap[b]? = some (.cells #[.string s, .string t] 24 (0, 0))
section
variable {w w' : World} {b K : Nat} {s t : ByteArray}
theorem RUB.lt (h : RUB w b s t) : b < w.heap.size := (Array.getElem?_eq_some_iff.1 h).1
theorem RUB.c0 (h : RUB w b s t) : w.cell? ⟨b, 0, none⟩ = some (.string s) := by rw [Lib.cell_of_heap h]; rfl
theorem RUB.c1 (h : RUB w b s t) : w.cell? ⟨b, 1, none⟩ = some (.string t) := by rw [Lib.cell_of_heap h]; rfl
theorem RUB.new (w : World) (s t : ByteArray) : RUB (w.alloc (.cells #[.string s, .string t] 24)) w.heap.size s t := heap_alloc_new w _
theorem RUB.below (h : RUB w b s t) (hb : Below K w w') (hK : b < K) : RUB w' b s t := (hb.block b hK).trans h
end
/-- the two methods -/
def mtV (f : FuncId) (C L q : ByteArray) : Value := .func (.func f) #[.agg #[.string C, .string L, .string q]] #[]
def FAB (w : World) (b : Nat) (C L q : ByteArray) : Prop := w.heap[b]? = some (.cells #[mtV 89 C L q, mtV 90 C L q] 143 (0, 0))
section
variable {w w' : World} {b K : Nat} {C L q : ByteArray}
theorem FAB.lt (h : FAB w b C L q) : b < w.heap.size := (Array.getElem?_eq_some_iff.1 h).1
theorem FAB.c0 (h : FAB w b C L q) : w.cell? ⟨b, 0, none⟩ = some (.func (.func 89) #[.agg #[.string C, .string L, .string q]] #[]) := by rw [Lib.cell_of_heap h]; rfl
theorem FAB.c1 (h : FAB w b C L q) : w.cell? ⟨b, 1, none⟩ = some (.func (.func 90) #[.agg #[.string C, .string L, .string q]] #[]) := by rw [Lib.cell_of_heap h]; rfl
theorem FAB.new (w : World) (C L q : ByteArray) : FAB (w.alloc (.cells #[.func (.func 89) #[.agg #[.string C, .string L, .string q]] #[], .func (.func 90) #[.agg #[.string C, .string L, .string q]] #[]] 143)) w.heap.size C L q := heap_alloc_new w _
theorem FAB.below (h : FAB w b C L q) (hb : Below K w w') (hK : b < K) : FAB w' b C L q := (hb.block b hK).trans h
end
def BDQ (E : Int) (n : Nat) (LM : List (ByteArray × ByteArray)) (w : World) : Ending → World → Prop := fun e w' =>
  (E ≠ 0 ∧ e = .returned (.tuple #[.slice none 0 0, .int .i64 E]) ∧ Below w.heap.size w w') ∨
  (E = 0 ∧ ∃ ao c, e = .returned (.tuple #[.slice ao n c, .int .i64 0]) ∧ GSl w' ao LM ∧ Below w.heap.size w w')
theorem BDQ.bad {E : Int} {n : Nat} {LM : List (ByteArray × ByteArray)} {w w' : World} {e : Ending} (h : E ≠ 0) (he : e = .returned (.tuple #[.slice none 0 0, .int .i64 E])) (hb : Below w.heap.size w w') : BDQ E n LM w e w' := .inl ⟨h, he, hb⟩
theorem BDQ.ok {n : Nat} {LM : List (ByteArray × ByteArray)} {w w' : World} {e : Ending} {ao : Option Addr} {c : Nat} (he : e = .returned (.tuple #[.slice ao n c, .int .i64 0])) (hg : GSl w' ao LM) (hb : Below w.heap.size w w') : BDQ 0 n LM w e w' := .inr ⟨rfl, ao, c, he, hg, hb⟩
theorem bd_bad {C L : ByteArray} {S : StP} (h : ¬ (validB C = true ∧ validB L = true)) : bdE C L S = 3 := if_neg h
theorem bd_lck {C L : ByteArray} {S : StP} (h : validB C = true ∧ validB L = true) (h2 : lckE S ≠ 0) : bdE C L S = lckE S := by unfold bdE; rw [if_pos h, if_neg h2]
theorem bd_low {C L : ByteArray} {S : StP} (h : validB C = true ∧ validB L = true) (h2 : lckE S = 0) (h3 : nv C < 2 ∨ nv L < 2) : bdE C L S = 2 := by unfold bdE; rw [if_pos h, if_pos h2, if_pos h3]
theorem bd_any {C L : ByteArray} {S : StP} (h : validB C = true ∧ validB L = true) (h2 : lckE S = 0) (h3 : ¬ (nv C < 2 ∨ nv L < 2)) : bdE C L S = if S.V.any (lowB C (ordL S.G)) = true then 2 else 0 := by unfold bdE; rw [if_pos h, if_pos h2, if_neg h3]
set_option maxHeartbeats 16000000 in
theorem sbounds_any (C L : ByteArray) (a : StA) (S : StM) (w : World) (hS : SS w a S) (hok : S.ok) (s1 : C.size ≤ 8) (s2 : L.size ≤ 8) (s3 : ∀ v ∈ S.V, v.size ≤ 8) :
    Calls Tryz.prog 61 #[.agg #[.string C, .string L], .agg #[.slice a.ga S.G.length a.gc, .slice a.va S.V.length a.vc, .slice a.qa S.Q.length a.qc]] w (BDQ (bdE C L S.pl) S.V.length (S.V.map (limP C L (ordL S.G))) w) := by
  have hb1 := (Below.refl _ w).alloc (Nat.le_refl _) (.cells #[.string C, .string L] 24)
  have hb := hb1.alloc hb1.size (.cells #[.slice a.ga S.G.length a.gc, .slice a.va S.V.length a.vc, .slice a.qa S.Q.length a.qc] 42)
  have hU := (RUB.new w C L).below ((Below.refl _ (w.alloc (.cells #[.string C, .string L] 24))).alloc (Nat.le_refl _) (.cells #[.slice a.ga S.G.length a.gc, .slice a.va S.V.length a.vc, .slice a.qa S.Q.length a.qc] 42)) (RUB.new w C L).lt
  have hX := SXB.new (w.alloc (.cells #[.string C, .string L] 24)) a S
  rw [World.size_alloc] at hX
  have hS0 := hS.below hb (Nat.le_refl _)
  have HCK := Lib.hid (fun w' (hS' : SS w' a S) => lcheck_any a S w' hS' hok)
  have HOR := Lib.hid (fun w' (hS' : SS w' a S) => sorder_any a S w' hS' hok)
  have hvl := hok.vl
  unfold maxLen at hvl
  by_cases hv : validB C = true ∧ validB L = true
  rotate_left
  · rw [bd_bad hv]
    have u0 := hU.c0
    have u1 := hU.c1
    clear hS hS0 HCK HOR hvl hX
    cases h1 : validB C
    · have HV := Lib.hid (nvalidQ h1)
      clear hv
      go_enter Tryz.func61, Tryz.ntmps61
      go_wp2_with fail
      refine (HV.out _).mono ?_; rintro e w1 ⟨rfl, rfl⟩
      go_wp2_with fail
      go_ret2
      exact BDQ.bad (by decide) rfl hb
    · have HV := Lib.hid (nvalidQ h1)
      have h2 : validB L = false := by
        cases h2 : validB L
        · rfl
        · exact absurd ⟨h1, h2⟩ hv
      have HW := Lib.hid (nvalidQ h2)
      clear hv
      go_enter Tryz.func61, Tryz.ntmps61
      go_wp2_with fail
      refine (HV.out _).mono ?_; rintro e w1 ⟨rfl, rfl⟩
      go_wp2_with fail
      refine (HW.out _).mono ?_; rintro e w2 ⟨rfl, rfl⟩
      go_wp2_with fail
      go_ret2
      exact BDQ.bad (by decide) rfl hb
  · have HV := Lib.hid (nvalidQ hv.1)
    have HW := Lib.hid (nvalidQ hv.2)
    have hC := isN_of_valid hv.1
    have hL := isN_of_valid hv.2
    have x0 := hX.c0
    have x1 := hX.c1
    have x2 := hX.c2
    have u0 := hU.c0
    have u1 := hU.c1
    by_cases hk : lckE S.pl = 0
    rotate_left
    · rw [bd_lck hv hk]
      generalize lckE S.pl = E at hk HCK ⊢
      have ht : (E != 0) = true := by simpa using hk
      go_enter Tryz.func61, Tryz.ntmps61
      go_wp2_with fail
      refine (HV.out _).mono ?_; rintro e w1 ⟨rfl, rfl⟩
      go_wp2_with fail
      refine (HW.out _).mono ?_; rintro e w2 ⟨rfl, rfl⟩
      go_wp2_with fail
      refine (HCK.out _ hS0).mono ?_; rintro e w3 ⟨rfl, b3⟩
      go_wp2_with fail
      go_ret2
      exact BDQ.bad hk rfl (hb.trans (b3.mono hb.size))
    · have H2 := Lib.hid (fun w' => Of_any 2 w' (by omega))
      have hq := ord_valid (G := S.G) (by
        have := (ck_parts hk).1
        unfold formB at this
        rw [Bool.and_eq_true] at this
        exact this.1)
      have hvs : ∀ v ∈ S.V, validB v = true := fun v hv' => by
        have := (ck_parts hk).1
        unfold formB at this
        rw [Bool.and_eq_true, Bool.and_eq_true] at this
        exact List.all_eq_true.1 this.2.1 v hv'
      have hIC := Lib.hid (fun w' => Cmp_any C (enc 2) (nv C) 2 w' hC (sN (by omega)))
      have hIL := Lib.hid (fun w' => Cmp_any L (enc 2) (nv L) 2 w' hL (sN (by omega)))
      have cells : ∀ w', Below w.heap.size w w' → True := fun _ _ => trivial
      by_cases hlo : nv C < 2 ∨ nv L < 2
      · rw [bd_low hv hk hlo]
        clear hq hvs cells
        rw [hk] at HCK
        rcases ncmpLt (nv C) 2 with ⟨hc, hz⟩ | ⟨hc, hz⟩
        · rw [hz] at hIC
          clear hIL hlo hC hL hc
          go_enter Tryz.func61, Tryz.ntmps61
          go_wp2_with fail
          refine (HV.out _).mono ?_; rintro e w1 ⟨rfl, rfl⟩
          go_wp2_with fail
          refine (HW.out _).mono ?_; rintro e w2 ⟨rfl, rfl⟩
          go_wp2_with fail
          refine (HCK.out _ hS0).mono ?_; rintro e w3 ⟨rfl, b3⟩
          have hb3 := hb.trans (b3.mono hb.size)
          replace u0 := cells_keepL b3 (Nat.le_refl _) _ _ u0
          replace u1 := cells_keepL b3 (Nat.le_refl _) _ _ u1
          go_wp2_with fail
          refine (H2.out _).mono ?_; rintro e w4 ⟨rfl, b4⟩
          have hb4 := hb3.trans (b4.mono hb3.size)
          replace u0 := cells_keepL b4 (Nat.le_refl _) _ _ u0
          replace u1 := cells_keepL b4 (Nat.le_refl _) _ _ u1
          go_wp2_with fail
          refine (hIC.out _).mono ?_; rintro e w5 ⟨rfl, rfl⟩
          go_wp2_with fail
          go_ret2
          exact BDQ.bad (by decide) rfl hb4
        · have hl : nv L < 2 := hlo.resolve_left hc
          have hz2 : ncmp (nv L) 2 = -1 := by
            rcases ncmpLt (nv L) 2 with ⟨_, h⟩ | ⟨h, _⟩
            · exact h
            · exact absurd hl h
          rw [hz2] at hIL
          have ht : decide (ncmp (nv C) 2 < 0) = false := by rcases hz with h | h <;> rw [h] <;> decide
          generalize ncmp (nv C) 2 = z at hIC ht
          clear hlo hC hL hc hz hl hz2
          go_enter Tryz.func61, Tryz.ntmps61
          go_wp2_with fail
          refine (HV.out _).mono ?_; rintro e w1 ⟨rfl, rfl⟩
          go_wp2_with fail
          refine (HW.out _).mono ?_; rintro e w2 ⟨rfl, rfl⟩
          go_wp2_with fail
          refine (HCK.out _ hS0).mono ?_; rintro e w3 ⟨rfl, b3⟩
          have hb3 := hb.trans (b3.mono hb.size)
          replace u0 := cells_keepL b3 (Nat.le_refl _) _ _ u0
          replace u1 := cells_keepL b3 (Nat.le_refl _) _ _ u1
          go_wp2_with fail
          refine (H2.out _).mono ?_; rintro e w4 ⟨rfl, b4⟩
          have hb4 := hb3.trans (b4.mono hb3.size)
          replace u0 := cells_keepL b4 (Nat.le_refl _) _ _ u0
          replace u1 := cells_keepL b4 (Nat.le_refl _) _ _ u1
          go_wp2_with fail
          refine (hIC.out _).mono ?_; rintro e w5 ⟨rfl, rfl⟩
          go_wp2_with fail
          refine (hIL.out _).mono ?_; rintro e w6 ⟨rfl, rfl⟩
          go_wp2_with fail
          go_ret2
          exact BDQ.bad (by decide) rfl hb4
      · have hbd : bdE C L S.pl = if S.V.any (lowB C (ordL S.G)) = true then 2 else 0 := bd_any hv hk hlo
        obtain ⟨R, hR⟩ : ∃ R, S.V.any (lowB C (ordL S.G)) = R := ⟨_, rfl⟩
        rw [hR] at hbd
        obtain ⟨E, hE⟩ : ∃ E, bdE C L S.pl = E := ⟨_, rfl⟩
        rw [hE] at hbd ⊢
        have HE := Lib.hid hbd
        clear hE
        have H0 : Hid ((S.V.drop 0).any (lowB C (ordL S.G)) = R) := hR
        clear hR hbd
        rw [hk] at HCK
        generalize ordL S.G = q at HOR hq H0 ⊢
        have hc2 : ¬ nv C < 2 := fun h => hlo (.inl h)
        have hl2 : ¬ nv L < 2 := fun h => hlo (.inr h)
        have htc : decide (ncmp (nv C) 2 < 0) = false := by
          rcases ncmpLt (nv C) 2 with ⟨h, _⟩ | ⟨_, h | h⟩
          · exact absurd h hc2
          all_goals rw [h]; decide
        have htl : decide (ncmp (nv L) 2 < 0) = false := by
          rcases ncmpLt (nv L) 2 with ⟨h, _⟩ | ⟨_, h | h⟩
          · exact absurd h hl2
          all_goals rw [h]; decide
        generalize ncmp (nv C) 2 = z at hIC htc
        generalize ncmp (nv L) 2 = z' at hIL htl
        clear cells hlo
        go_enter Tryz.func61, Tryz.ntmps61
        go_wp2_with fail
        refine (HV.out _).mono ?_; rintro e w1 ⟨rfl, rfl⟩
        go_wp2_with fail
        refine (HW.out _).mono ?_; rintro e w2 ⟨rfl, rfl⟩
        go_wp2_with fail
        refine (HCK.out _ hS0).mono ?_; rintro e w3 ⟨rfl, b3⟩
        have hb3 := hb.trans (b3.mono hb.size)
        replace u0 := cells_keepL b3 (Nat.le_refl _) _ _ u0
        replace u1 := cells_keepL b3 (Nat.le_refl _) _ _ u1
        go_wp2_with fail
        refine (H2.out _).mono ?_; rintro e w4 ⟨rfl, b4⟩
        have hb4 := hb3.trans (b4.mono hb3.size)
        have hb34 := b3.trans (b4.mono b3.size)
        replace u0 := cells_keepL b4 (Nat.le_refl _) _ _ u0
        replace u1 := cells_keepL b4 (Nat.le_refl _) _ _ u1
        replace x0 := cells_keepL hb34 (Nat.le_refl _) _ _ x0
        replace x1 := cells_keepL hb34 (Nat.le_refl _) _ _ x1
        replace x2 := cells_keepL hb34 (Nat.le_refl _) _ _ x2
        have hS4 := hS0.below hb34 (Nat.le_refl _)
        go_wp2_with fail
        refine (hIC.out _).mono ?_; rintro e w5 ⟨rfl, rfl⟩
        go_wp2_with fail
        refine (hIL.out _).mono ?_; rintro e w6 ⟨rfl, rfl⟩
        go_wp2_with fail
        have hv64 := (many_q (ck_parts hk).2.1).2.1
        clear hIC hIL HCK H2 HV HW b3 b4 hb hb1 hb3 hb34 hU hX hS hS0 htc htl
        have HOR4 := Lib.hid (fun w' (hb' : Below w4.heap.size w4 w') => HOR.out w' (hS4.below hb' (Nat.le_refl _)))
        have hVS := hS4.v
        have hvs8 : ∀ v ∈ S.V, v.size ≤ 8 := s3
        clear HOR hok hk hv
        obtain ⟨ga, gc, va, vc, qa, qc⟩ := a
        obtain ⟨G, V, Q⟩ := S
        simp only at x0 x1 x2 HOR4 hvl hVS hvs hvs8 H0 hv64 ⊢
        obtain ⟨ng, hng⟩ : ∃ n, G.length = n := ⟨_, rfl⟩
        obtain ⟨nvv, hnv⟩ : ∃ n, V.length = n := ⟨_, rfl⟩
        obtain ⟨nqq, hnq⟩ : ∃ n, Q.length = n := ⟨_, rfl⟩
        simp only [hng, hnv, hnq] at x0 x1 x2 HOR4 hvl hv64 ⊢
        have HNV := Lib.hid hnv
        clear hng hnq
        go_cut [8] from 45 to 48 (fun v8 wc => ∃ p, v8 = .pointer (some ⟨p, 0, none⟩) ∧ STB wc p C L q ∧ Below w4.heap.size w4 wc)
        case first =>
          clear hvs hvs8 hVS HNV hnv hC hL hq s1 s2 s3 H0
          have HMK := Lib.hid (fun w' (hw : Below w4.heap.size w4 w') => (⟨cells_keepL hw (Nat.le_refl _) _ _ u0, cells_keepL hw (Nat.le_refl _) _ _ u1, cells_keepL hw (Nat.le_refl _) _ _ x0, cells_keepL hw (Nat.le_refl _) _ _ x1, cells_keepL hw (Nat.le_refl _) _ _ x2, hw⟩ : w'.cell? ⟨w.heap.size, 0, none⟩ = some (.string C) ∧ w'.cell? ⟨w.heap.size, 1, none⟩ = some (.string L) ∧ w'.cell? ⟨w.heap.size + 1, 0, none⟩ = some (.slice ga ng gc) ∧ w'.cell? ⟨w.heap.size + 1, 1, none⟩ = some (.slice va nvv vc) ∧ w'.cell? ⟨w.heap.size + 1, 2, none⟩ = some (.slice qa nqq qc) ∧ Below w4.heap.size w4 w'))
          go_region_held3 (fun w' => w'.cell? ⟨w.heap.size, 0, none⟩ = some (.string C) ∧ w'.cell? ⟨w.heap.size, 1, none⟩ = some (.string L) ∧ w'.cell? ⟨w.heap.size + 1, 0, none⟩ = some (.slice ga ng gc) ∧ w'.cell? ⟨w.heap.size + 1, 1, none⟩ = some (.slice va nvv vc) ∧ w'.cell? ⟨w.heap.size + 1, 2, none⟩ = some (.slice qa nqq qc) ∧ Below w4.heap.size w4 w')
           (first | assumption | (refine HMK.out _ ?_; repeat' (first | assumption | with_reducible exact Below.refl _ _ | with_reducible refine Below.drew ?_ | with_reducible refine Below.alloc ?_ (by first | simp | (simp; omega) | exact hbn.size) _ | with_reducible refine Below.setCell ?_ (by first | simp | (simp; omega)) _)))
           ((go_at_call 87; (first | (with_reducible refine (HOR4.out _ (Below.refl _ _).drew).mono ?_) | (with_reducible refine (HOR4.out _ ((Below.refl _ w4).alloc (Nat.le_refl _) _).drew).mono ?_)); rintro e wn ⟨rfl, bn⟩; (first | (have hbn : Below w4.heap.size w4 wn := (Below.refl _ w4).drew.trans (bn.mono (Nat.le_refl _)); have hrn := trivial) | (have hbn : Below w4.heap.size w4 wn := ((Below.refl _ w4).alloc (Nat.le_refl _) (.cells #[.string ⟨#[]⟩, .string ⟨#[]⟩, .string ⟨#[]⟩] 141)).drew.trans (bn.mono (by simp)); have hrn := (STB.new w4 ⟨#[]⟩ ⟨#[]⟩ ⟨#[]⟩).drew.below bn (STB.new w4 ⟨#[]⟩ ⟨#[]⟩ ⟨#[]⟩).lt; have z0 := hrn.c0; have z1 := hrn.c1; have z2 := hrn.c2; have z3 := hrn.f 0; have z4 := hrn.f 1; have z5 := hrn.f 2))))
          ·
           go_wp2_with fail
           go_meet
           exact ⟨_, rfl, STB.new wn C L q, hbn.alloc hbn.size _⟩
          ·
           go_wp2_with fail
           go_meet
           exact ⟨_, rfl, put1 (put1 (put1 hrn)), ((hbn.setCell (p := ⟨w4.heap.size, 0, none⟩) (Nat.le_refl _) (.string C)).setCell (p := ⟨w4.heap.size, 1, none⟩) (Nat.le_refl _) (.string L)).setCell (p := ⟨w4.heap.size, 2, none⟩) (Nat.le_refl _) (.string q)⟩
        case rest =>
          obtain ⟨p, rfl, hT, hBc⟩ := hcut
          rename World => wc
          have hb5 := hb4.trans (hBc.mono hb4.size)
          replace u0 := cells_keepL hBc (Nat.le_refl _) _ _ u0
          replace x1 := cells_keepL hBc (Nat.le_refl _) _ _ x1
          have HV4 := Lib.hid (hVS.keepL (cells_keepL hBc (Nat.le_refl _)))
          have HVA := Lib.hid hvs
          have HV8 := Lib.hid hvs8
          clear hVS HOR4 hb4 hBc u1 x0 x2 hvs hvs8 s3
          have t0 := hT.c0
          have t1 := hT.c1
          have t2 := hT.c2
          go_wp2_with fail
          have HKD := Lib.hid (fun (b : ByteArray) (w' : World) => skind_any b w')
          have HCQ := Lib.hid (fun w' => Cmp_any C q (nv C) (nv q) w' hC hq)
          go_loopw [52] (fun v52 wr => ∃ k : Nat, k ≤ nvv ∧ v52 = .int .i64 (k : Int) ∧ Hid ((V.drop k).any (lowB C q) = R) ∧ Below wc.heap.size wc wr) (fun v52 _ => nvv - (intOf v52).toNat)
          case atStart => exact ⟨0, by omega, rfl, H0, Below.refl _ _⟩
          case round =>
            clear H0
            obtain ⟨k, hkn, rfl, hP, hB⟩ := hrel
            have hbw := hb5.trans (hB.mono hb5.size)
            by_cases hlt : k < nvv
            · have hkV : k < V.length := by rw [HNV.out]; exact hlt
              obtain ⟨b, off, rfl, e0⟩ := (HV4.out.keepL (cells_keepL hB (Nat.le_refl _))) k hkV
              have hw := hP.out
              rw [List.drop_eq_getElem_cons hkV, List.any_cons] at hw
              generalize V[k] = y at e0 hw
              have hbN := (Below.refl _ wr).alloc (Nat.le_refl _) (.cells #[.string y] 77)
              have hY := VrB.new wr y
              have y0 := hY.c0
              have hBn := hB.trans (hbN.mono hB.size)
              have hbn := hbw.trans (hbN.mono hbw.size)
              have g0 := cells_keepL hBn (Nat.le_refl _) _ _ u0
              have g2 := cells_keepL hBn (Nat.le_refl _) _ _ t2
              have HKy := Lib.hid (HKD.out y)
              unfold kdI at HKy
              cases he : emB y
              · rw [if_neg (by rw [he]; decide)] at HKy
                rw [show lowB C q y = false by unfold lowB; rw [he]; rfl, Bool.false_or] at hw
                have HW := Lib.hid hw
                clear hw he hP hkV HKD
                go_wp2_with fail
                refine (HKy.out _).mono ?_; rintro e w7 ⟨rfl, b7⟩
                have hB8 := hBn.trans (b7.mono hBn.size)
                go_wp2_with fail
                exact ⟨⟨k + 1, by omega, by go_num, HW, hB8⟩, by simp [intOf]; omega⟩
              · rw [if_pos he] at HKy
                by_cases hqc : nv q < nv C
                · have hz : decide (ncmp (nv C) (nv q) > 0) = true := decide_eq_true ((ncmp_gt _ _).2 hqc)
                  rw [show lowB C q y = true by unfold lowB; rw [he, decide_eq_true hqc]; rfl, Bool.true_or] at hw
                  have HW := Lib.hid hw
                  generalize ncmp (nv C) (nv q) = zz at HCQ hz
                  clear hw he hP hkV HKD
                  go_wp2_with fail
                  refine (HKy.out _).mono ?_; rintro e w7 ⟨rfl, b7⟩
                  have hbe := hbn.trans (b7.mono hbn.size)
                  have g0 := cells_keepL b7 (Nat.le_refl _) _ _ g0
                  have g2 := cells_keepL b7 (Nat.le_refl _) _ _ g2
                  go_wp2_with fail
                  refine (HCQ.out _).mono ?_; rintro e w8 ⟨rfl, rfl⟩
                  go_wp2_with fail
                  go_ret2
                  have he2 : E = 2 := by rw [HE.out, ← HW.out]; rfl
                  subst he2
                  exact BDQ.bad (by decide) rfl hbe
                · have hz : decide (ncmp (nv C) (nv q) > 0) = false := decide_eq_false (fun h => hqc ((ncmp_gt _ _).1 h))
                  rw [show lowB C q y = false by unfold lowB; rw [he, decide_eq_false hqc]; rfl, Bool.false_or] at hw
                  have HW := Lib.hid hw
                  generalize ncmp (nv C) (nv q) = zz at HCQ hz
                  clear hw he hP hkV HKD
                  go_wp2_with fail
                  refine (HKy.out _).mono ?_; rintro e w7 ⟨rfl, b7⟩
                  have hB8 := hBn.trans (b7.mono hBn.size)
                  have g0 := cells_keepL b7 (Nat.le_refl _) _ _ g0
                  have g2 := cells_keepL b7 (Nat.le_refl _) _ _ g2
                  go_wp2_with fail
                  refine (HCQ.out _).mono ?_; rintro e w8 ⟨rfl, rfl⟩
                  go_wp2_with fail
                  exact ⟨⟨k + 1, by omega, by go_num, HW, hB8⟩, by simp [intOf]; omega⟩
            · obtain rfl : k = nvv := by omega
              have hw := hP.out
              rw [List.drop_of_length_le (by rw [HNV.out]; omega)] at hw
              have hRf : false = R := hw
              subst hRf
              obtain rfl : E = 0 := HE.out
              clear hw hP HCQ
              have r0 := cells_keepL hB (Nat.le_refl _) _ _ t0
              have r1 := cells_keepL hB (Nat.le_refl _) _ _ t1
              have r2 := cells_keepL hB (Nat.le_refl _) _ _ t2
              have rx := cells_keepL hB (Nat.le_refl _) _ _ x1
              have HV5 := Lib.hid (HV4.out.keepL (cells_keepL hB (Nat.le_refl _)))
              clear t0 t1 t2 x1 HV4 hB hb5 u0 hT
              have hF := FAB.new wr C L q
              have hbF := (Below.refl _ wr).alloc (Nat.le_refl _) (.cells #[.func (.func 89) #[.agg #[.string C, .string L, .string q]] #[], .func (.func 90) #[.agg #[.string C, .string L, .string q]] #[]] 143)
              replace rx := cells_keepL hbF (Nat.le_refl _) _ _ rx
              have HV6 := Lib.hid (HV5.out.keepL (cells_keepL hbF (Nat.le_refl _)))
              have hb6 := hbw.trans (hbF.mono hbw.size)
              clear HV5 hbF
              go_wp2_with fail
              clear r0 r1 r2
              generalize wr.heap.size = pf at hF ⊢
              generalize hw6 : World.alloc wr _ = w6 at hF rx HV6 hb6 ⊢
              clear hw6
              have HKD := Lib.hid (fun (b : ByteArray) (w' : World) => skind_any b w')
              have HMO := Lib.hid (fun (b : ByteArray) (w' : World) => smodular_any C L q b w')
              have HIN := Lib.hid (fun (b : ByteArray) (hb : IsN b (nv b)) (h8 : b.size ≤ 8) (h1 : 1 ≤ nv b) (w' : World) => sintegral_any C L q b (nv C) (nv L) (nv b) w' hC hL hb s1 s2 h8 (by omega) (by omega) h1)
              obtain ⟨i0, hi, hz0, hz1, hz2⟩ := info_parts info_lim3
              have HI := Lib.hid (And.intro hi (And.intro hz0 (And.intro hz1 hz2)))
              clear hi hz0 hz1 hz2 hC hL s1 s2 hq hc2 hl2
              have hR0 := RL.start w6
              go_loopw [12, 76] (fun v12 v76 wr => ∃ j : Nat, j ≤ k ∧ v76 = .int .i64 (j : Int) ∧ RL w6 wr v12 j ((V.map (limP C L q)).take j)) (fun _ v76 _ => k - (intOf v76).toNat)
              case atStart => exact ⟨0, by omega, rfl, by rw [List.take_zero]; exact hR0⟩
              case round =>
                clear hR0
                obtain ⟨j, hjn, rfl, hR⟩ := hrel
                have hB := hR.bl
                by_cases hlt : j < k
                · have hjV : j < V.length := by rw [HNV.out]; exact hlt
                  obtain ⟨b, off, rfl, e0⟩ := (HV6.out.keepL (cells_keepL hB (Nat.le_refl _))) j hjV
                  have hy1 := HVA.out _ (List.getElem_mem hjV)
                  have hy8 := HV8.out _ (List.getElem_mem hjV)
                  have hst : (V.map (limP C L q)).take (j + 1) = (V.map (limP C L q)).take j ++ [limP C L q V[j]] := by
                    rw [List.take_succ_eq_append_getElem (by rw [List.length_map]; exact hjV), List.getElem_map]
                  generalize V[j] = y at e0 hy1 hy8 hst
                  have hbN := (Below.refl _ wr).alloc (Nat.le_refl _) (.cells #[.string y] 77)
                  have hY := VrB.new wr y
                  have y0 := hY.c0
                  have hR1 := hR.alloc (.cells #[.string y] 77)
                  have hF1 := (hF.below hB hF.lt).below hbN (hF.below hB hF.lt).lt
                  have f0 := hF1.c0
                  have f1 := hF1.c1
                  obtain ⟨s', t', hst', HM⟩ : ∃ s' t', limP C L q y = (s', t') ∧ Hid ((kdI y = 0 ∧ ∀ w', Calls Tryz.prog 89 #[.agg #[.string C, .string L, .string q], .string y] w' fun e w'' => e = .returned (.tuple #[.agg #[.string s', .string t'], .int .i64 0]) ∧ Below w'.heap.size w' w'') ∨ (kdI y = 1 ∧ ∀ w', Calls Tryz.prog 90 #[.agg #[.string C, .string L, .string q], .string y] w' fun e w'' => e = .returned (.tuple #[.agg #[.string s', .string t'], .int .i64 0]) ∧ Below w'.heap.size w' w'')) := by
                    unfold limP kdI
                    cases he : emB y
                    · exact ⟨_, _, rfl, .inr ⟨rfl, HIN.out y (isN_of_valid hy1) hy8 (em_pos (isN_of_valid hy1) he)⟩⟩
                    · exact ⟨_, _, rfl, .inl ⟨rfl, HMO.out y⟩⟩
                  rw [hst'] at hst
                  have HST := Lib.hid hst
                  clear hst hst' hy1 hy8 hjV HMO HIN hR hY hF hB
                  go_wp2_with fail
                  clear e0
                  generalize hpv : wr.heap.size = pv at y0 hbN ⊢
                  generalize hw7 : World.alloc wr _ = w7 at y0 hR1 f0 f1 hF1 hbN ⊢
                  go_cut [15, 16] from 80 to 89 (fun v15 v16 wc => ∃ p : Nat, v15 = .pointer (some ⟨p, 0, none⟩) ∧ v16 = .int .i64 0 ∧ LMB wc p s' t' ∧ Below w7.heap.size w7 wc)
                  case first =>
                    have HMK := Lib.hid (fun w' (hw : Below w7.heap.size w7 w') => (⟨cells_keepL hw (Nat.le_refl _) _ _ y0, cells_keepL hw (Nat.le_refl _) _ _ f0, cells_keepL hw (Nat.le_refl _) _ _ f1, hw⟩ : w'.cell? ⟨pv, 0, none⟩ = some (.string y) ∧ w'.cell? ⟨pf, 0, none⟩ = some (.func (.func 89) #[.agg #[.string C, .string L, .string q]] #[]) ∧ w'.cell? ⟨pf, 1, none⟩ = some (.func (.func 90) #[.agg #[.string C, .string L, .string q]] #[]) ∧ Below w7.heap.size w7 w'))
                    clear HV6 HVA HV8 HST HI HNV HE hR1 hF1 hbN
                    rcases HM.out with ⟨hk, hM⟩ | ⟨hk, hM⟩
                    ·
                      have HKy := Lib.hid (HKD.out y)
                      rw [hk] at HKy
                      have HMM := Lib.hid hM
                      clear hk hM HKD
                      go_region_held3 (fun w' => w'.cell? ⟨pv, 0, none⟩ = some (.string y) ∧ w'.cell? ⟨pf, 0, none⟩ = some (.func (.func 89) #[.agg #[.string C, .string L, .string q]] #[]) ∧ w'.cell? ⟨pf, 1, none⟩ = some (.func (.func 90) #[.agg #[.string C, .string L, .string q]] #[]) ∧ Below w7.heap.size w7 w')
                       (first | assumption | (refine HMK.out _ ?_; repeat' (first | assumption | with_reducible exact Below.refl _ _ | with_reducible refine Below.drew ?_ | with_reducible refine Below.alloc ?_ (by first | with_reducible exact hbm.size | with_reducible exact hbn.size | (simp; done) | (simp; omega)) _ | with_reducible refine Below.setCell ?_ (by first | exact hbn.size | (simp; done) | (simp; omega)) _)))
                       (first
                        | (go_at_call 88; (with_reducible refine (HKy.out _).mono ?_); rintro e wn ⟨rfl, bn⟩; (first | (have hbn : Below w7.heap.size w7 wn := (Below.refl _ w7).drew.trans (bn.mono (Nat.le_refl _))) | (have hbn : Below w7.heap.size w7 wn := ((Below.refl _ w7).alloc (Nat.le_refl _) (.cells #[.string ⟨#[]⟩, .string ⟨#[]⟩] 122)).drew.trans (bn.mono (by simp)); have hrn := (LMB.new w7 ⟨#[]⟩ ⟨#[]⟩).drew.below bn (LMB.new w7 ⟨#[]⟩ ⟨#[]⟩).lt)))
                        | (go_at_call 89; (with_reducible refine (HMM.out _).mono ?_); rintro e wm ⟨rfl, bm⟩; (first | (have hrm := hrn.below bm hrn.lt; have hbm : Below w7.heap.size w7 wm := hbn.trans (bm.mono hbn.size); have z0 := hrm.c0; have z1 := hrm.c1; have z3 := hrm.f 0; have z4 := hrm.f 1) | (have hrm := (LMB.new wn ⟨#[]⟩ ⟨#[]⟩).below bm (LMB.new wn ⟨#[]⟩ ⟨#[]⟩).lt; have hbm : Below w7.heap.size w7 wm := (hbn.alloc hbn.size (.cells #[.string ⟨#[]⟩, .string ⟨#[]⟩] 122)).trans (bm.mono (hbn.alloc hbn.size (.cells #[.string ⟨#[]⟩, .string ⟨#[]⟩] 122)).size); have z0 := hrm.c0; have z1 := hrm.c1; have z3 := hrm.f 0; have z4 := hrm.f 1) | (have hbm : Below w7.heap.size w7 wm := hbn.trans (bm.mono hbn.size)))))
                      all_goals
                        go_wp2_with fail
                        go_meet
                        first
                          | exact ⟨_, rfl, rfl, hrm.put _ _, (hbm.setCell (p := ⟨w7.heap.size, 0, none⟩) (Nat.le_refl _) _).setCell (p := ⟨w7.heap.size, 1, none⟩) (Nat.le_refl _) _⟩
                          | exact ⟨_, rfl, rfl, hrm.put _ _, (hbm.setCell (p := ⟨wn.heap.size, 0, none⟩) hbn.size _).setCell (p := ⟨wn.heap.size, 1, none⟩) hbn.size _⟩
                          | exact ⟨_, rfl, rfl, LMB.new wm s' t', hbm.alloc hbm.size _⟩
                    ·
                      have HKy := Lib.hid (HKD.out y)
                      rw [hk] at HKy
                      have HMM := Lib.hid hM
                      clear hk hM HKD
                      go_region_held3 (fun w' => w'.cell? ⟨pv, 0, none⟩ = some (.string y) ∧ w'.cell? ⟨pf, 0, none⟩ = some (.func (.func 89) #[.agg #[.string C, .string L, .string q]] #[]) ∧ w'.cell? ⟨pf, 1, none⟩ = some (.func (.func 90) #[.agg #[.string C, .string L, .string q]] #[]) ∧ Below w7.heap.size w7 w')
                       (first | assumption | (refine HMK.out _ ?_; repeat' (first | assumption | with_reducible exact Below.refl _ _ | with_reducible refine Below.drew ?_ | with_reducible refine Below.alloc ?_ (by first | with_reducible exact hbm.size | with_reducible exact hbn.size | (simp; done) | (simp; omega)) _ | with_reducible refine Below.setCell ?_ (by first | exact hbn.size | (simp; done) | (simp; omega)) _)))
                       (first
                        | (go_at_call 88; (with_reducible refine (HKy.out _).mono ?_); rintro e wn ⟨rfl, bn⟩; (first | (have hbn : Below w7.heap.size w7 wn := (Below.refl _ w7).drew.trans (bn.mono (Nat.le_refl _))) | (have hbn : Below w7.heap.size w7 wn := ((Below.refl _ w7).alloc (Nat.le_refl _) (.cells #[.string ⟨#[]⟩, .string ⟨#[]⟩] 122)).drew.trans (bn.mono (by simp)); have hrn := (LMB.new w7 ⟨#[]⟩ ⟨#[]⟩).drew.below bn (LMB.new w7 ⟨#[]⟩ ⟨#[]⟩).lt)))
                        | (go_at_call 90; (with_reducible refine (HMM.out _).mono ?_); rintro e wm ⟨rfl, bm⟩; (first | (have hrm := hrn.below bm hrn.lt; have hbm : Below w7.heap.size w7 wm := hbn.trans (bm.mono hbn.size); have z0 := hrm.c0; have z1 := hrm.c1; have z3 := hrm.f 0; have z4 := hrm.f 1) | (have hrm := (LMB.new wn ⟨#[]⟩ ⟨#[]⟩).below bm (LMB.new wn ⟨#[]⟩ ⟨#[]⟩).lt; have hbm : Below w7.heap.size w7 wm := (hbn.alloc hbn.size (.cells #[.string ⟨#[]⟩, .string ⟨#[]⟩] 122)).trans (bm.mono (hbn.alloc hbn.size (.cells #[.string ⟨#[]⟩, .string ⟨#[]⟩] 122)).size); have z0 := hrm.c0; have z1 := hrm.c1; have z3 := hrm.f 0; have z4 := hrm.f 1) | (have hbm : Below w7.heap.size w7 wm := hbn.trans (bm.mono hbn.size)))))
                      all_goals
                        go_wp2_with fail
                        go_meet
                        first
                          | exact ⟨_, rfl, rfl, hrm.put _ _, (hbm.setCell (p := ⟨w7.heap.size, 0, none⟩) (Nat.le_refl _) _).setCell (p := ⟨w7.heap.size, 1, none⟩) (Nat.le_refl _) _⟩
                          | exact ⟨_, rfl, rfl, hrm.put _ _, (hbm.setCell (p := ⟨wn.heap.size, 0, none⟩) hbn.size _).setCell (p := ⟨wn.heap.size, 1, none⟩) hbn.size _⟩
                          | exact ⟨_, rfl, rfl, LMB.new wm s' t', hbm.alloc hbm.size _⟩
                  case rest =>
                    obtain ⟨p2, rfl, rfl, hM2, hBc⟩ := hcut
                    rename World => w8
                    have hR2 := hR1.below (hBc.mono (by rw [← hw7, World.size_alloc]; omega))
                    have hR4 := hR2.alloc (.cells #[.string s', .string t'] 122)
                    have m0 := hM2.c0
                    have m1 := hM2.c1
                    have hNC := LMB.new w8 s' t'
                    obtain ⟨hi, hz0, hz1, hz2⟩ := HI.out
                    clear hR1 hR2 y0 f0 f1 hF1 hbN HM hBc hM2 HKD HV6 HVA HV8
                    go_wp2_with (at_builtin; refine wpList_append_own _ rfl (.tmp 93) (.tmp 95) 117 rfl w6.heap.size 122 i0 (.agg #[.string ⟨#[]⟩, .string ⟨#[]⟩]) 2 32 Tryz.underlying117 hi hz0 hz1 hz2 rfl (by decide) u12 j (lcl ((V.map (limP C L q)).take j)) rfl hR4.o ⟨w8.heap.size, 0, none⟩ 1 1 [.string s', .string t'] rfl rfl (two_cellV hNC.c0 hNC.c1) ?o1 ?o2 ?o3 hR4.bl.size ?_; (case o1 => simp [Value.oneCell']); (case o2 => unfold maxLen; omega); (case o3 => omega); intro v1 w9 hown hgrow _; have hR5 := hR4.app hgrow hown; rw [← HST.out] at hR5; clear hown hgrow)
                    exact ⟨⟨j + 1, by omega, by go_num, hR5⟩, by simp [intOf]; omega⟩
                · obtain rfl : k = j := by omega
                  rw [List.take_of_length_le (by rw [List.length_map, HNV.out]; omega)] at hR
                  have hbf := hb6.trans (hR.bl.mono hb6.size)
                  obtain ⟨ab, c1, rfl, hnb⟩ := own_GSl hR.o
                  clear hR hB
                  go_wp2_with fail
                  go_ret2
                  exact BDQ.ok (by rw [HNV.out]; rfl) hnb hbf
end Go.Proofs.YtdlbnioidfhhcaaGreat
