import Derived.Test.YtcjbbneiobnmkaaGreatRwA
import Derived.Test.YtcjbbneiobnmkaaGreatRgA
import Derived.Test.YtcjbbneiobnmkaaGreatWtC
import Derived.Laws.AppendOwnNone
/- The reference of layer 36: ready. -/
namespace Go.Proofs.YtcjbbneiobnmkaaGreat
open Go.RowKit Num
set_option maxRecDepth 20000
set_option linter.unusedVariables false
theorem all4 (M O : ByteArray) (le lh : List ByteArray) : (M :: O :: (le ++ lh)).all validB = (validB M && (validB O && (le.all validB && lh.all validB))) := by simp
set_option maxHeartbeats 8000000 in
theorem rready_any (nm M O Z S : ByteArray) (rv : Value) (U H : ByteArray) (ae ah : Option Addr) (ce ch ne nh : Nat) (le lh : List ByteArray) (w : World)
    (hle : NS w ae le) (hlh : NS w ah lh) (hne : le.length = ne) (hnh : lh.length = nh) (h1 : ne ≤ 100) (h2 : nh ≤ 100) (h64 : M.size ≤ 64) :
    Calls Tryz.prog 82 #[.agg #[.string nm, .string M, .string O, .string Z, .string S, rv, .string U, .string H], .slice ae ne ce, .slice ah nh ch] w fun e w' => e = .returned (.int .i64 (rdE M O le lh)) ∧ Below w.heap.size w w' := by
  have hK := KB.new w nm M O Z S rv U H
  have hb := (Below.refl _ w).alloc (Nat.le_refl _) (.cells #[.string nm, .string M, .string O, .string Z, .string S, rv, .string U, .string H] 63)
  have HLE := Lib.hid (hle.below hb (Nat.le_refl _))
  have HLH := Lib.hid (hlh.below hb (Nat.le_refl _))
  have HF1 := Lib.hid (fun w h => rformed_any ae ce ne le w h hne (by unfold maxLen; omega))
  have HF2 := Lib.hid (fun w h => rformed_any ah ch nh lh w h hnh (by unfold maxLen; omega))
  have HZ := Lib.hid (fun w h => rzero_any ah ch nh lh w h hnh (by unfold maxLen; omega))
  have HNE := Lib.hid hne
  have H3 : Hid ((M :: O :: (le ++ lh)).all validB = false → rdE M O le lh = 3) := fun h => rdE_form (by rw [h]; decide)
  have hall := all4 M O le lh
  clear hle hlh hne hnh
  cases hvM : validB M
  · have HR := Lib.hid (H3.out (by rw [hall, hvM]; rfl))
    have HV := Lib.hid hvM
    clear hvM hall H3
    go_enter Tryz.func82, Tryz.ntmps82
    go_wp2_with fail
    generalize w.alloc _ = w0 at hK hb HLE HLH ⊢
    have c1 := hK.c1
    have c2 := hK.c2
    refine (refValid_any _ _).mono ?_; rw [HV.out]; rintro e w1 ⟨rfl, rfl⟩
    go_wp2_with fail
    go_ret
    exact ⟨ret_int HR.out.symm, hb⟩
  have HV := Lib.hid hvM
  cases hvO : validB O
  · have HR := Lib.hid (H3.out (by rw [hall, hvM, hvO]; rfl))
    have HVO := Lib.hid hvO
    clear hvM hvO hall H3
    go_enter Tryz.func82, Tryz.ntmps82
    go_wp2_with fail
    generalize w.alloc _ = w0 at hK hb HLE HLH ⊢
    have c1 := hK.c1
    have c2 := hK.c2
    refine (refValid_any _ _).mono ?_; rw [HV.out]; rintro e w1 ⟨rfl, rfl⟩
    go_wp2_with fail
    refine (refValid_any _ _).mono ?_; rw [HVO.out]; rintro e w1 ⟨rfl, rfl⟩
    go_wp2_with fail
    go_ret
    exact ⟨ret_int HR.out.symm, hb⟩
  have HVO := Lib.hid hvO
  cases hve : le.all validB
  · have HR := Lib.hid (H3.out (by rw [hall, hvM, hvO, hve]; rfl))
    rw [hve] at HF1
    clear hvM hvO hve hall H3
    go_enter Tryz.func82, Tryz.ntmps82
    go_wp2_with fail
    generalize w.alloc _ = w0 at hK hb HLE HLH ⊢
    have c1 := hK.c1
    have c2 := hK.c2
    refine (refValid_any _ _).mono ?_; rw [HV.out]; rintro e w1 ⟨rfl, rfl⟩
    go_wp2_with fail
    refine (refValid_any _ _).mono ?_; rw [HVO.out]; rintro e w1 ⟨rfl, rfl⟩
    go_wp2_with fail
    refine (HF1.out _ HLE.out).mono ?_; rintro e w1 ⟨rfl, rfl⟩
    go_wp2_with fail
    go_ret
    exact ⟨ret_int HR.out.symm, hb⟩
  rw [hve] at HF1
  cases hvh : lh.all validB
  · have HR := Lib.hid (H3.out (by rw [hall, hvM, hvO, hve, hvh]; rfl))
    rw [hvh] at HF2
    clear hvM hvO hve hvh hall H3
    go_enter Tryz.func82, Tryz.ntmps82
    go_wp2_with fail
    generalize w.alloc _ = w0 at hK hb HLE HLH ⊢
    have c1 := hK.c1
    have c2 := hK.c2
    refine (refValid_any _ _).mono ?_; rw [HV.out]; rintro e w1 ⟨rfl, rfl⟩
    go_wp2_with fail
    refine (refValid_any _ _).mono ?_; rw [HVO.out]; rintro e w1 ⟨rfl, rfl⟩
    go_wp2_with fail
    refine (HF1.out _ HLE.out).mono ?_; rintro e w1 ⟨rfl, rfl⟩
    go_wp2_with fail
    refine (HF2.out _ HLH.out).mono ?_; rintro e w1 ⟨rfl, rfl⟩
    go_wp2_with fail
    go_ret
    exact ⟨ret_int HR.out.symm, hb⟩
  rw [hvh] at HF2
  have HALL := Lib.hid (show (M :: O :: (le ++ lh)).all validB = true by rw [hall, hvM, hvO, hve, hvh]; rfl)
  clear hvM hvO hve hvh hall H3
  rcases gE_cases M O with hg | hg | hg
  rotate_left
  iterate 2
    · have HR := Lib.hid ((rdE_group HALL.out (by rw [hg]; decide)).trans hg)
      have HG := Lib.hid hg
      clear hg
      go_enter Tryz.func82, Tryz.ntmps82
      go_wp2_with fail
      generalize w.alloc _ = w0 at hK hb HLE HLH ⊢
      have c1 := hK.c1
      have c2 := hK.c2
      refine (refValid_any _ _).mono ?_; rw [HV.out]; rintro e w1 ⟨rfl, rfl⟩
      go_wp2_with fail
      refine (refValid_any _ _).mono ?_; rw [HVO.out]; rintro e w1 ⟨rfl, rfl⟩
      go_wp2_with fail
      refine (HF1.out _ HLE.out).mono ?_; rintro e w1 ⟨rfl, rfl⟩
      go_wp2_with fail
      refine (HF2.out _ HLH.out).mono ?_; rintro e w1 ⟨rfl, rfl⟩
      go_wp2_with fail
      refine (r13Check_any M O _).mono ?_; rw [HG.out]; rintro e w2 ⟨rfl, b2⟩
      go_wp2_with fail
      go_ret
      exact ⟨ret_int HR.out.symm, hb.trans (b2.mono hb.size)⟩
  have HG := Lib.hid hg
  clear hg
  go_enter Tryz.func82, Tryz.ntmps82
  go_wp2_with fail
  generalize w.alloc _ = w0 at hK hb HLE HLH ⊢
  have c1 := hK.c1
  have c2 := hK.c2
  refine (refValid_any _ _).mono ?_; rw [HV.out]; rintro e w1 ⟨rfl, rfl⟩
  go_wp2_with fail
  refine (refValid_any _ _).mono ?_; rw [HVO.out]; rintro e w1 ⟨rfl, rfl⟩
  go_wp2_with fail
  refine (HF1.out _ HLE.out).mono ?_; rintro e w1 ⟨rfl, rfl⟩
  go_wp2_with fail
  refine (HF2.out _ HLH.out).mono ?_; rintro e w1 ⟨rfl, rfl⟩
  go_wp2_with fail
  refine (r13Check_any M O _).mono ?_; rw [HG.out]; rintro e w2 ⟨rfl, b2⟩
  have hK2 := hK.below b2 hK.lt
  have hb2 := hb.trans (b2.mono hb.size)
  have HLE2 := Lib.hid (HLE.out.below b2 (Nat.le_refl _))
  have HLH2 := Lib.hid (HLH.out.below b2 (Nat.le_refl _))
  clear hK hb HLE HLH b2 c1 c2 HF1 HF2
  go_wp2_with fail
  obtain ⟨wo, rfl⟩ : ∃ wo : World, wo = w2 := ⟨_, rfl⟩
  go_loopw [8] (fun i wr => ∃ k : Nat, k ≤ ne ∧ i = .int .i64 k ∧ Hid (∀ j (hj : j < le.length), j < k → hasB M O le[j] = true) ∧ Below wo.heap.size wo wr) (fun i _ => ne - (intOf i).toNat)
  case atStart => exact ⟨0, by omega, rfl, fun j _ h => by omega, Below.refl _ _⟩
  case round =>
    obtain ⟨k, hk, rfl, hv, hbr⟩ := hrel
    have hK3 := hK2.below hbr hK2.lt
    have c1 := hK3.c1
    have c2 := hK3.c2
    by_cases hlt : k < ne
    · have hkl : k < le.length := by rw [HNE.out]; exact hlt
      obtain ⟨b, off, rfl, hc⟩ := HLE2.out k hkl
      obtain ⟨X, hX⟩ : ∃ X, le[k] = X := ⟨_, rfl⟩
      rw [hX] at hc
      have hc := cellB_below hc hbr (Nat.le_refl _)
      have HH := Lib.hid (fun w => r13Has_any M O X w h64)
      have kk : (0 : Int) ≤ (k : Int) := by omega
      have kl : (k : Int) < (ne : Int) := by omega
      cases hval : hasB M O X
      · have HR := Lib.hid (rdE_has (lh := lh) HALL.out HG.out (not_all hkl (by rw [hX]; exact hval)))
        rw [hval] at HH
        clear hval hX hv
        go_wp2_with fail
        go_region_held3 (fun w' => w'.cell? ⟨w.heap.size, 1, none⟩ = some (.string M) ∧ w'.cell? ⟨w.heap.size, 2, none⟩ = some (.string O) ∧ w'.cell? ⟨b, off + k, none⟩ = some (.string X) ∧ Below wr.heap.size wr w')
          (first | exact ⟨c1, c2, hc, (Below.refl _ wr).drew⟩ | (refine keep3 ?_ bn; assumption))
          (first | (go_at_call 19; (with_reducible refine (HH.out _).mono ?_); rintro e wn ⟨rfl, bn⟩))
        go_split_ands
        have hbn : Below wr.heap.size wr wn := by assumption
        go_wp2_with fail
        go_ret
        exact ⟨ret_int HR.out.symm, hb2.trans ((hbr.trans (hbn.mono hbr.size)).mono hb2.size)⟩
      · have HST : Hid (∀ j (hj : j < le.length), j < k + 1 → hasB M O le[j] = true) := fun j hj hjk => by
          by_cases e : j = k
          · subst e; rw [hX]; exact hval
          · exact hv.out j hj (by omega)
        rw [hval] at HH
        clear hval hX hv
        go_wp2_with fail
        go_region_held3 (fun w' => w'.cell? ⟨w.heap.size, 1, none⟩ = some (.string M) ∧ w'.cell? ⟨w.heap.size, 2, none⟩ = some (.string O) ∧ w'.cell? ⟨b, off + k, none⟩ = some (.string X) ∧ Below wr.heap.size wr w')
          (first | exact ⟨c1, c2, hc, (Below.refl _ wr).drew⟩ | (refine keep3 ?_ bn; assumption))
          (first | (go_at_call 19; (with_reducible refine (HH.out _).mono ?_); rintro e wn ⟨rfl, bn⟩))
        go_split_ands
        have hbn : Below wr.heap.size wr wn := by assumption
        go_wp2_with fail
        exact ⟨⟨k + 1, by omega, by go_num, HST, hbr.trans (hbn.mono hbr.size)⟩, by simp [intOf]; omega⟩
    · obtain rfl : k = ne := by omega
      have hl := rdE_last (lh := lh) HALL.out HG.out (all_of (l := le) (p := hasB M O) fun j hj => hv.out j hj (by rw [HNE.out] at hj; exact hj))
      have HL := Lib.hid (HLH2.out.below hbr (Nat.le_refl _))
      cases hz : nzB lh
      · have HR := Lib.hid (hl.trans (show nzE lh = 11 from if_neg (by unfold nzB at hz; rw [hz]; decide)))
        unfold nzB at hz
        rw [hz] at HZ
        clear hl hv hz hK3 c1 c2
        go_wp2_with fail
        refine (HZ.out _ HL.out).mono ?_; rintro e w3 ⟨rfl, rfl⟩
        go_wp2_with fail
        go_ret
        exact ⟨ret_int HR.out.symm, hb2.trans (hbr.mono hb2.size)⟩
      · have HR := Lib.hid (hl.trans (show nzE lh = 0 from if_pos (by unfold nzB at hz; exact hz)))
        unfold nzB at hz
        rw [hz] at HZ
        clear hl hv hz hK3 c1 c2
        go_wp2_with fail
        refine (HZ.out _ HL.out).mono ?_; rintro e w3 ⟨rfl, rfl⟩
        go_wp2_with fail
        go_ret
        exact ⟨ret_int HR.out.symm, hb2.trans (hbr.mono hb2.size)⟩
end Go.Proofs.YtcjbbneiobnmkaaGreat

/- The reference of layer 36: Added, Update, Removed. -/
namespace Go.Proofs.YtcjbbneiobnmkaaGreat
open Go.RowKit Num
set_option maxRecDepth 20000
set_option linter.unusedVariables false
theorem addr_add' (b o j : Nat) : (⟨b, o, none⟩ : Addr).add j = ⟨b, o + j, none⟩ := by unfold Addr.add; split <;> simp_all
/-- a slice of numbers, appended to one of our own -/
theorem wpList_append_NS {w : World} {ops : Array Oper} {rest : List Oper} {o : Oper} {a : Act} {Q : Exit → Act → World → Prop} (hgd : o.guard = none) (s x : Operand)
    (ho : o.op = .call { callee := .builtin .append, args := #[s, x], argTypes := #[38, 38] })
    (base : Nat) (v : Value) (n : Nat) (L0 : List ByteArray) (hs : a.eval s = v) (hown : w.ownsRow base 22 1 v n (L0.map Value.string))
    (ao : Option Addr) (c m : Nat) (L : List ByteArray) (hm : L.length = m) (hx : a.eval x = .slice ao m c) (hno : ao = none → c = 0 ∧ m = 0) (hN : NS w ao L) (h63 : n + m ≤ 100000) (hbase : base ≤ w.heap.size)
    (h : ∀ v' w', w'.ownsRow base 22 1 v' (n + m) ((L0 ++ L).map Value.string) → Below base w w' → wpList Tryz.prog ops Q rest (a.put o.dst v') w') : wpList Tryz.prog ops Q (o :: rest) a w := by
  obtain ⟨i0, hi, hz0, hz1, hz2⟩ := info_parts info_nat
  subst hm
  cases ao with
  | none =>
    obtain ⟨rfl, h0⟩ := hno rfl
    have hL : L = [] := List.length_eq_zero_iff.1 h0
    subst hL
    refine wpList_append_own_none hgd s x 38 ho base 22 i0 1 Tryz.underlying38 hi v n _ hs hown hx ?_
    refine h v w ?_ (Below.refl _ _)
    simpa using hown
  | some ad =>
    refine wpList_append_own w hgd s x 38 ho base 22 i0 (.string ⟨#[]⟩) 1 16 Tryz.underlying38 hi hz0 hz1 hz2 rfl (by decide) v n _ hs hown ad L.length c (L.map Value.string) hx (by simp) ?_ ?_ (by unfold maxLen; omega) (by omega) hbase ?_
    · intro j u hu
      rw [List.getElem?_map] at hu
      cases hj : L[j]? with
      | none => rw [hj] at hu; cases hu
      | some y =>
        rw [hj] at hu
        obtain ⟨hlt, rfl⟩ := List.getElem?_eq_some_iff.1 hj
        cases hu
        obtain ⟨b, off, e, hc⟩ := hN j hlt
        cases e
        rw [addr_add']; exact hc
    · intro u hu
      obtain ⟨y, _, rfl⟩ := List.mem_map.1 hu
      rfl
    · intro v' w' hown' hgr _
      rw [← List.map_append] at hown'
      exact h v' w' hown' ((Below.refl base w).grown hgr hbase (fun q e => (own_ge hown q e).1))
theorem cl_of {l : List ByteArray} (h : l.all validB = true) {k : Nat} (hk : k < l.length) : cl l[k] = l[k] := if_pos (List.all_eq_true.1 h _ (List.getElem_mem hk))
set_option maxHeartbeats 8000000 in
theorem radded_any (nm M O Z S : ByteArray) (rv : Value) (U H : ByteArray) (x : ByteArray) (a1 : Option Addr) (c1 n1 : Nat) (la : List ByteArray) (w : World)
    (hl : NS w a1 la) (hn : la.length = n1) (h1 : n1 ≤ 100) (h64 : M.size ≤ 64) :
    Calls Tryz.prog 43 #[.agg #[.string nm, .string M, .string O, .string Z, .string S, rv, .string U, .string H], .string x, .slice a1 n1 c1] w fun e w' => e = .returned (.tuple #[.string (if rdE M O [x] la = 0 then adS M O x la else ⟨#[]⟩), .int .i64 (rdE M O [x] la)]) ∧ Below w.heap.size w w' := by
  have hK0 := KB.new w nm M O Z S rv U H
  have hb0 := (Below.refl _ w).alloc (Nat.le_refl _) (.cells #[.string nm, .string M, .string O, .string Z, .string S, rv, .string U, .string H] 63)
  obtain ⟨W0, hW0⟩ : ∃ W2, w.alloc (.cells #[.string nm, .string M, .string O, .string Z, .string S, rv, .string U, .string H] 63) = W2 := ⟨_, rfl⟩
  rw [hW0] at hK0 hb0
  have k0 := hK0.c0
  have k1 := hK0.c1
  have k2 := hK0.c2
  have k3 := hK0.c3
  have k4 := hK0.c4
  have k5 := hK0.c5
  have k6 := hK0.c6
  have k7 := hK0.c7
  have hA := (Below.refl _ W0).alloc (Nat.le_refl _) (.cells #[.string x] 22)
  have hl1 := (hl.below hb0 (Nat.le_refl _)).below hA (Nat.le_refl _)
  have HRD := Lib.hid (rready_any nm M O Z S rv U H _ a1 1 c1 1 n1 [x] la _ (ns_one W0 x) hl1 rfl hn (by omega) h1 h64)
  have HL1 := Lib.hid hl1
  have HN := Lib.hid hn
  have hK1 := hK0.below hA hK0.lt
  have hb1 := hb0.trans (hA.mono hb0.size)
  clear hl hn hl1 hA
  by_cases hrd0 : rdE M O [x] la = 0
  rotate_left
  · rw [if_neg hrd0]
    obtain ⟨E, hE⟩ : ∃ E, rdE M O [x] la = E := ⟨_, rfl⟩
    rw [hE] at HRD hrd0 ⊢
    clear hE
    go_enter Tryz.func43, Tryz.ntmps43
    go_wp2_with fail
    refine HRD.out.mono ?_; rintro e w2 ⟨rfl, b2⟩
    go_wp2_with fail
    go_ret2
    exact ⟨rfl, hb1.trans (b2.mono hb1.size)⟩
  obtain ⟨v1, v2, v3, v4⟩ := rdE_ok hrd0
  have HV := Lib.hid (valid_mid v1)
  rw [if_pos hrd0, hrd0]
  rw [hrd0] at HRD
  clear hrd0 v1 v2 v3 v4
  go_enter Tryz.func43, Tryz.ntmps43
  go_wp2_with fail
  refine HRD.out.mono ?_; rintro e w2 ⟨rfl, b2⟩
  have hK2 := hK1.below b2 hK1.lt
  have hb2 := hb1.trans (b2.mono hb1.size)
  have HL2 := Lib.hid (HL1.out.below b2 (Nat.le_refl _))
  clear k0 k1 k2 k3 k4 k5 k6 k7 hK0 hb0 hW0 hK1 hb1 b2 HL1 HRD
  go_wp2_with fail
  obtain ⟨wo, rfl⟩ : ∃ wo : World, wo = w2 := ⟨_, rfl⟩
  go_loopw [1, 9] (fun vx i wr => ∃ k : Nat, k ≤ n1 ∧ i = .int .i64 k ∧ vx = .string (adS M O x (la.take k)) ∧ Below wo.heap.size wo wr) (fun _ i _ => n1 - (intOf i).toNat)
  case atStart => exact ⟨0, by omega, rfl, rfl, Below.refl _ _⟩
  case round =>
    obtain ⟨k, hk, rfl, rfl, hbr⟩ := hrel
    have hK3 := hK2.below hbr hK2.lt
    have c1' := hK3.c1
    have c2' := hK3.c2
    by_cases hlt : k < n1
    · have hkl : k < la.length := by rw [HN.out]; exact hlt
      obtain ⟨b, off, rfl, hc⟩ := HL2.out k hkl
      have hst := adS_snoc M O x (la.take k) la[k]
      rw [← List.take_succ_eq_append_getElem hkl] at hst
      unfold stA at hst
      rw [cl_of HV.out hkl] at hst
      obtain ⟨X, hX⟩ : ∃ X, la[k] = X := ⟨_, rfl⟩
      rw [hX] at hc hst
      have hc := cellB_below hc hbr (Nat.le_refl _)
      obtain ⟨y, hy⟩ : ∃ y, adS M O x (la.take k) = y := ⟨_, rfl⟩
      obtain ⟨y2, hy2⟩ : ∃ y, adS M O x (la.take (k + 1)) = y := ⟨_, rfl⟩
      rw [hy, hy2] at hst
      rw [hy]
      have HE := Lib.hid (fun w => r13Exp_any M O y false X w h64)
      rw [← hst] at HE
      obtain ⟨g, hg⟩ : ∃ g, gpE M O [y] [(false, X)] = g := ⟨_, rfl⟩
      rw [hg] at HE
      have HY2 := Lib.hid hy2
      have kk : (0 : Int) ≤ (k : Int) := by omega
      have kl : (k : Int) < (n1 : Int) := by omega
      clear hst hX hy hy2 hg
      go_wp2_with fail
      go_region_held3 (fun w' => w'.cell? ⟨w.heap.size, 1, none⟩ = some (.string M) ∧ w'.cell? ⟨w.heap.size, 2, none⟩ = some (.string O) ∧ w'.cell? ⟨b, off + k, none⟩ = some (.string X) ∧ Below wr.heap.size wr w')
        (first | exact ⟨c1', c2', hc, (Below.refl _ wr).drew⟩ | assumption | (refine keep3 ?_ bn; assumption))
        (first | (go_at_call 21; (with_reducible refine (HE.out _).mono ?_); rintro e wn ⟨rfl, bn⟩))
      all_goals
        go_split_ands
        have hbn := hbr.trans ((show Below wr.heap.size wr _ by assumption).mono hbr.size)
        go_wp2_with fail
        exact ⟨⟨k + 1, by omega, by go_num, by rw [HY2.out], hbn⟩, by simp [intOf]; omega⟩
    · obtain rfl : k = n1 := by omega
      rw [List.take_of_length_le (by rw [HN.out]; exact Nat.le_refl _)]
      go_wp2_with fail
      go_ret2
      exact ⟨rfl, hb2.trans (hbr.mono hb2.size)⟩
theorem gm_ok2 {M O : ByteArray} {x y : Nat} (hg : gE M O = 0) (hx : elN (nv M) (nv O) x = true) (hy : elN (nv M) (nv O) y = true) : gmE M O (enc x) (enc y) = 0 ∧ gmS M O (enc x) (enc y) = enc (x * y % nv M) := by
  obtain ⟨hM, _, hm2, _⟩ := gE_ok hg
  have nx : IsN (enc x) x := IsN.mk' (Nat.le_trans (blen_mono (Nat.le_of_lt (el_lt hx))) hM.le)
  have ny : IsN (enc y) y := IsN.mk' (Nat.le_trans (blen_mono (Nat.le_of_lt (el_lt hy))) hM.le)
  have h0 : gmE M O (enc x) (enc y) = 0 := by
    unfold gmE
    rw [ck_last ⟨by simp [nx.valid, ny.valid], by simp⟩ hg]
    simp [nx.nv, ny.nv, hx, hy]
  exact ⟨h0, by rw [gmS, h0, mo_zero, nx.nv, ny.nv]⟩
/-- the product of two powers -/
theorem mul_exp {M O x acc : ByteArray} {X Y : Int} (hx : hasB M O x = true) (hy : hasB M O acc = true) (hX : ZOk X) (hY : ZOk Y) :
    gmE M O (gpS M O [x] [(zb X, zs X)]) (gpS M O [acc] [(zb Y, zs Y)]) = 0 ∧ gmS M O (gpS M O [x] [(zb X, zs X)]) (gpS M O [acc] [(zb Y, zs Y)]) = upP M O x acc X Y := by
  obtain ⟨g0, x2, x3⟩ := hasB_ok hx
  obtain ⟨_, y2, y3⟩ := hasB_ok hy
  obtain ⟨hM, _, hm2, _⟩ := gE_ok g0
  have e1 := gpS_one hx (ivB_z hX)
  have e2 := gpS_one hy (ivB_z hY)
  rw [e1, e2]
  obtain ⟨h1, h2⟩ := gm_ok2 g0 (el_pow hm2 (el_sb hm2 x3 (zb X)) (nv (zs X))) (el_pow hm2 (el_sb hm2 y3 (zb Y)) (nv (zs Y)))
  refine ⟨h1, ?_⟩
  rw [h2, upP, gpS, gp_two g0 hx hy hX hY, mo_zero]
  simp only [prs, List.zipWith_cons_cons, List.zipWith_nil_left, pr, Nat.mul_one]
  rw [← Nat.mul_mod]
set_option maxHeartbeats 8000000 in
theorem rupdate_any (nm M O Z S : ByteArray) (rv : Value) (U H : ByteArray) (x u : ByteArray) (a1 a2 : Option Addr) (c1 c2 n1 n2 : Nat) (la ld : List ByteArray) (acc : ByteArray) (w : World)
    (hl1 : NS w a1 la) (hl2 : NS w a2 ld) (hn1 : la.length = n1) (hn2 : ld.length = n2) (h1 : n1 ≤ 30) (h2 : n2 ≤ 30) (ho1 : a1 = none → c1 = 0 ∧ n1 = 0) (ho2 : a2 = none → c2 = 0 ∧ n2 = 0) (h64 : M.size ≤ 64) :
    Calls Tryz.prog 39 #[.agg #[.string nm, .string M, .string O, .string Z, .string S, rv, .string U, .string H], .string x, .string u, .slice a1 n1 c1, .slice a2 n2 c2, .string acc] w fun e w' => e = .returned (.tuple #[.string (upS M O x acc u la ld), .int .i64 (upE M O x acc u la ld)]) ∧ Below w.heap.size w w' := by
  have HNN := Lib.hid (And.intro hn1 hn2)
  have HNO := Lib.hid (And.intro ho1 ho2)
  have hK0 := KB.new w nm M O Z S rv U H
  have hb0 := (Below.refl _ w).alloc (Nat.le_refl _) (.cells #[.string nm, .string M, .string O, .string Z, .string S, rv, .string U, .string H] 63)
  obtain ⟨W0, hW0⟩ : ∃ W2, w.alloc (.cells #[.string nm, .string M, .string O, .string Z, .string S, rv, .string U, .string H] 63) = W2 := ⟨_, rfl⟩
  rw [hW0] at hK0 hb0
  have HOWN := Lib.hid (show (W0.alloc (.cells #[.string u] 22)).ownsRow W0.heap.size 22 1 (.slice (some ⟨W0.heap.size, 0, none⟩) 1 1) 1 ([u].map Value.string) from own_one W0 u)
  have hA := (Below.refl _ W0).alloc (Nat.le_refl _) (.cells #[.string u] 22)
  obtain ⟨W1, hW1⟩ : ∃ W2, W0.alloc (.cells #[.string u] 22) = W2 := ⟨_, rfl⟩
  rw [hW1] at HOWN hA
  have HL1 := Lib.hid ((hl1.below hb0 (Nat.le_refl _)).below hA (Nat.le_refl _))
  have HL2a := hl2.below hb0 (Nat.le_refl _)
  have HL1a := hl1.below hb0 (Nat.le_refl _)
  have HLA := Lib.hid (And.intro HL1a HL2a)
  have hz1 : W0.heap.size ≤ W1.heap.size := hA.size
  have HA := Lib.hid hA
  clear hl1 hl2 hn1 hn2 ho1 ho2 HL1a HL2a hA
  go_enter Tryz.func39, Tryz.ntmps39
  go_wp2_with (first
    | (at_builtin; refine wpList_append_NS rfl (.tmp 27) (.tmp 28) rfl W0.heap.size (.slice (some ⟨W0.heap.size, 0, none⟩) 1 1) 1 [u] rfl HOWN.out a1 c1 n1 la HNN.out.1 rfl HNO.out.1 HL1.out (by omega) hz1 ?_; intro v1 W2 hown1 hB1; have HOWN2 := Lib.hid hown1; have HB1 := Lib.hid (HA.out.trans hB1); have HL2 := Lib.hid (HLA.out.2.below HB1.out (Nat.le_refl _)); have hz2 : W0.heap.size ≤ W2.heap.size := HB1.out.size; clear hown1 hB1)
    | (at_builtin; refine wpList_append_NS rfl (.tmp 30) (.tmp 31) rfl W0.heap.size v1 (1 + n1) ([u] ++ la) rfl HOWN2.out a2 c2 n2 ld HNN.out.2 rfl HNO.out.2 HL2.out (by omega) hz2 ?_; intro v2 W3 hown2 hB2; have HOWN3 := Lib.hid hown2; have HB2 := Lib.hid (HB1.out.trans hB2); clear hown2 hB2; obtain ⟨ao, co, rfl, hNS⟩ := own_NS HOWN3.out; have hK3 := hK0.below HB2.out hK0.lt; have k0 := hK3.c0; have k1 := hK3.c1; have k2 := hK3.c2; have k3 := hK3.c3; have k4 := hK3.c4; have k5 := hK3.c5; have k6 := hK3.c6; have k7 := hK3.c7))
  have hAe := (Below.refl _ W3).alloc (Nat.le_refl _) (.cells #[.string x, .string acc] 22)
  have hNS2 : NS W3 ao (u :: (la ++ ld)) := by have h := hNS; rwa [show ([u] ++ la) ++ ld = u :: (la ++ ld) by simp] at h
  have hlen : (u :: (la ++ ld)).length = 1 + n1 + n2 := by simp [HNN.out.1, HNN.out.2]; omega
  have HRD := Lib.hid (rready_any nm M O Z S rv U H _ ao 2 co 2 (1 + n1 + n2) [x, acc] (u :: (la ++ ld)) _ (ns_two W3 x acc) (hNS2.below hAe (Nat.le_refl _)) rfl hlen (by omega) (by omega) h64)
  have hK4 := hK3.below hAe hK3.lt
  have hA4 := HB2.out.trans (hAe.mono HB2.out.size)
  have hb4 := hb0.trans (hA4.mono hb0.size)
  have HN1 := Lib.hid (HLA.out.1.below hA4 (Nat.le_refl _))
  have HN2 := Lib.hid (HLA.out.2.below hA4 (Nat.le_refl _))
  generalize World.alloc W3 _ = W4 at HRD hK4 hb4 HN1 HN2 ⊢
  clear hW0 hW1 hK0 hb0 HOWN HL1 HLA hz1 HA HOWN2 HB1 HL2 hz2 HOWN3 HB2 hNS hNS2 hlen hK3 k0 k1 k2 k3 k4 k5 k6 k7 hAe hA4 HNO
  by_cases hrd0 : rdE M O [x, acc] (u :: (la ++ ld)) = 0
  rotate_left
  · have hu : upE M O x acc u la ld = rdE M O [x, acc] (u :: (la ++ ld)) := if_neg hrd0
    have hs : upS M O x acc u la ld = ⟨#[]⟩ := if_neg (by rw [hu]; exact hrd0)
    have HR := Lib.hid (And.intro hs hu)
    obtain ⟨E, hE⟩ : ∃ E, rdE M O [x, acc] (u :: (la ++ ld)) = E := ⟨_, rfl⟩
    rw [hE] at HRD hrd0 HR
    clear hu hs hE
    refine HRD.out.mono ?_; rintro e w2 ⟨rfl, b2⟩
    go_wp2_with fail
    go_ret2
    exact ⟨by rw [HR.out.1, HR.out.2]; rfl, hb4.trans (b2.mono hb4.size)⟩
  obtain ⟨v1, v2, v3, v4⟩ := rdE_ok hrd0
  have hu : upE M O x acc u la ld = wxE u la ld := if_pos hrd0
  have hP := posN_of (valid_mid v1) v4
  have huN : IsN u (nv u) := (hP u (by simp)).1
  have hpl : PosN (la ++ ld) := fun x hx => hP x (List.mem_cons_of_mem _ hx)
  rw [hrd0] at HRD
  have HE := Lib.hid (fun w a b => rexponents_any u a1 a2 c1 c2 n1 n2 la ld w huN a b HNN.out.1 HNN.out.2 h1 h2 hpl.left hpl.right)
  unfold XR at HE
  refine HRD.out.mono ?_; rintro e w5 ⟨rfl, b5⟩
  have hK5 := hK4.below b5 hK4.lt
  have hb5 := hb4.trans (b5.mono hb4.size)
  have HM1 := Lib.hid (HN1.out.below b5 (Nat.le_refl _))
  have HM2 := Lib.hid (HN2.out.below b5 (Nat.le_refl _))
  clear HRD hK4 hb4 HN1 HN2 b5
  by_cases hx0 : wxE u la ld = 0
  rotate_left
  · have hs : upS M O x acc u la ld = ⟨#[]⟩ := if_neg (by rw [hu]; exact hx0)
    have HR := Lib.hid (And.intro hs hu)
    obtain ⟨E, hE⟩ : ∃ E, wxE u la ld = E := ⟨_, rfl⟩
    rw [hE] at HE hx0 HR
    obtain ⟨X, hX⟩ : ∃ X, wxX u la ld = X := ⟨_, rfl⟩
    obtain ⟨Y, hY⟩ : ∃ X, wxY u la ld = X := ⟨_, rfl⟩
    rw [hX, hY] at HE
    clear hu hs hE hX hY v1 v2 v3 v4 hP huN hpl hrd0
    go_wp2_with fail
    refine (HE.out _ HM1.out HM2.out).mono ?_; rintro e w3 ⟨rfl, b3⟩
    have hb3 := ((hb5.trans (b3.mono hb5.size)).alloc (hb5.trans (b3.mono hb5.size)).size (.cells #[.bool (zb X), .string (zs X)] 32)).alloc (by have := (hb5.trans (b3.mono hb5.size)).size; simp; omega) (.cells #[.bool (zb Y), .string (zs Y)] 32)
    go_wp2_with fail
    go_ret2
    exact ⟨by rw [HR.out.1, HR.out.2]; rfl, hb3⟩
  obtain ⟨zX, zY⟩ := wx_zok hx0 hpl.right
  have hh1 := List.all_eq_true.1 v3 x (by simp)
  have hh2 := List.all_eq_true.1 v3 acc (by simp)
  obtain ⟨m0, m1⟩ := mul_exp (X := wxX u la ld) (Y := wxY u la ld) hh1 hh2 zX zY
  have hs : upS M O x acc u la ld = upP M O x acc (wxX u la ld) (wxY u la ld) := if_pos (by rw [hu]; exact hx0)
  have HR := Lib.hid (And.intro hs (hu.trans hx0))
  rw [hx0] at HE
  have HX1 := Lib.hid (fun w => r13Exp_any M O x (zb (wxX u la ld)) (zs (wxX u la ld)) w h64)
  have HX2 := Lib.hid (fun w => r13Exp_any M O acc (zb (wxY u la ld)) (zs (wxY u la ld)) w h64)
  have HX3 := Lib.hid (fun w => r13Mul_any M O (gpS M O [x] [(zb (wxX u la ld), zs (wxX u la ld))]) (gpS M O [acc] [(zb (wxY u la ld), zs (wxY u la ld))]) w h64)
  rw [m0, m1] at HX3
  obtain ⟨X, hX⟩ : ∃ X, wxX u la ld = X := ⟨_, rfl⟩
  obtain ⟨Y, hY⟩ : ∃ X, wxY u la ld = X := ⟨_, rfl⟩
  rw [hX, hY] at HE HX3 HR
  rw [hX] at HX1
  rw [hY] at HX2
  obtain ⟨r1, hr1⟩ : ∃ r, gpS M O [x] [(zb X, zs X)] = r := ⟨_, rfl⟩
  obtain ⟨r2, hr2⟩ : ∃ r, gpS M O [acc] [(zb Y, zs Y)] = r := ⟨_, rfl⟩
  obtain ⟨r3, hr3⟩ : ∃ r, upP M O x acc X Y = r := ⟨_, rfl⟩
  obtain ⟨g1, hg1⟩ : ∃ r, gpE M O [x] [(zb X, zs X)] = r := ⟨_, rfl⟩
  obtain ⟨g2, hg2⟩ : ∃ r, gpE M O [acc] [(zb Y, zs Y)] = r := ⟨_, rfl⟩
  rw [hr1, hg1] at HX1
  rw [hr2, hg2] at HX2
  rw [hr1, hr2, hr3] at HX3
  rw [hr3] at HR
  clear hu hs hX hY v1 v2 v3 v4 hP huN hpl hrd0 hx0 zX zY m0 m1 hh1 hh2 hr1 hr2 hr3 hg1 hg2
  go_wp2_with fail
  refine (HE.out _ HM1.out HM2.out).mono ?_; rintro e w6 ⟨rfl, b6⟩
  have hK6 := hK5.below b6 hK5.lt
  have hb6 := hb5.trans (b6.mono hb5.size)
  have hZ1 := (ZBox.new w6 X).alloc (.cells #[.bool (zb Y), .string (zs Y)] 32)
  have hZ2 := ZBox.new (w6.alloc (.cells #[.bool (zb X), .string (zs X)] 32)) Y
  rw [World.size_alloc] at hZ2
  have hK7 := (hK6.alloc (.cells #[.bool (zb X), .string (zs X)] 32)).alloc (.cells #[.bool (zb Y), .string (zs Y)] 32)
  have hb7 := (hb6.alloc hb6.size (.cells #[.bool (zb X), .string (zs X)] 32)).alloc (by have := hb6.size; simp; omega) (.cells #[.bool (zb Y), .string (zs Y)] 32)
  obtain ⟨W7, hW7⟩ : ∃ W4, (w6.alloc (.cells #[.bool (zb X), .string (zs X)] 32)).alloc (.cells #[.bool (zb Y), .string (zs Y)] 32) = W4 := ⟨_, rfl⟩
  rw [hW7] at hZ1 hZ2 hK7 hb7
  have q1 := hK7.c1
  have q2 := hK7.c2
  have z0 := hZ1.c0
  have z1 := hZ1.c1
  clear HM1 HM2 hK5 hb5 b6 hK6 hb6 HE
  go_wp2_with fail
  refine (HX1.out _).mono ?_; rintro e w8 ⟨rfl, b8⟩
  have hK8 := hK7.below b8 hK7.lt
  have hY8 := hZ2.below b8 hZ2.lt
  have hb8 := hb7.trans (b8.mono hb7.size)
  clear q1 q2 z0 z1 hZ1 hZ2 hK7 hb7 b8 hW7
  have q1 := hK8.c1
  have q2 := hK8.c2
  have z0 := hY8.c0
  have z1 := hY8.c1
  go_wp2_with fail
  refine (HX2.out _).mono ?_; rintro e w9 ⟨rfl, b9⟩
  have hK9 := hK8.below b9 hK8.lt
  have hb9 := hb8.trans (b9.mono hb8.size)
  clear q1 q2 z0 z1 hY8 hK8 hb8 b9
  have q1 := hK9.c1
  have q2 := hK9.c2
  go_wp2_with fail
  refine (HX3.out _).mono ?_; rintro e w10 ⟨rfl, b10⟩
  go_wp2_with fail
  go_ret2
  exact ⟨by rw [HR.out.1, HR.out.2]; rfl, hb9.trans (b10.mono hb9.size)⟩
set_option maxHeartbeats 4000000 in
theorem rremoved_any (nm M O Z S : ByteArray) (rv : Value) (U H : ByteArray) (x u gone acc : ByteArray) (w : World) (h64 : M.size ≤ 64) :
    Calls Tryz.prog 45 #[.agg #[.string nm, .string M, .string O, .string Z, .string S, rv, .string U, .string H], .string x, .string u, .string gone, .string acc] w fun e w' => e = .returned (.tuple #[.string (upS M O x acc u [] [gone]), .int .i64 (upE M O x acc u [] [gone])]) ∧ Below w.heap.size w w' := by
  have hK0 := KB.new w nm M O Z S rv U H
  have hb0 := (Below.refl _ w).alloc (Nat.le_refl _) (.cells #[.string nm, .string M, .string O, .string Z, .string S, rv, .string U, .string H] 63)
  obtain ⟨W0, hW0⟩ : ∃ W2, w.alloc (.cells #[.string nm, .string M, .string O, .string Z, .string S, rv, .string U, .string H] 63) = W2 := ⟨_, rfl⟩
  rw [hW0] at hK0 hb0
  have k0 := hK0.c0
  have k1 := hK0.c1
  have k2 := hK0.c2
  have k3 := hK0.c3
  have k4 := hK0.c4
  have k5 := hK0.c5
  have k6 := hK0.c6
  have k7 := hK0.c7
  have hN := ns_one W0 gone
  have hA := (Below.refl _ W0).alloc (Nat.le_refl _) (.cells #[.string gone] 22)
  have HU := Lib.hid (rupdate_any nm M O Z S rv U H x u none (some ⟨W0.heap.size, 0, none⟩) 0 1 0 1 [] [gone] acc _ (NS.nil _ _) hN rfl rfl (by omega) (by omega) (fun _ => ⟨rfl, rfl⟩) (fun h => by cases h) h64)
  have hb1 := hb0.trans (hA.mono hb0.size)
  obtain ⟨R, hR⟩ : ∃ R, upS M O x acc u [] [gone] = R := ⟨_, rfl⟩
  obtain ⟨E, hE⟩ : ∃ R, upE M O x acc u [] [gone] = R := ⟨_, rfl⟩
  rw [hR, hE] at HU ⊢
  clear hR hE hN hA
  go_enter Tryz.func45, Tryz.ntmps45
  go_wp2_with fail
  refine HU.out.mono ?_; rintro e w2 ⟨rfl, b2⟩
  go_wp2_with fail
  go_ret2
  exact ⟨rfl, hb1.trans (b2.mono hb1.size)⟩
end Go.Proofs.YtcjbbneiobnmkaaGreat
