import Derived.Test.YtcjbbneiobnmkaaRwA
import Derived.Test.YtcjbbneiobnmkaaRgA
import Derived.Test.YtcjbbneiobnmkaaWtC
import Derived.Laws.AppendOwnNone
/- The reference of layer 36: ready. -/
namespace Go.Proofs.Ytcjbbneiobnmkaa
open Go.RowKit Num
set_option maxRecDepth 20000
set_option linter.unusedVariables false
theorem all4 (M O : ByteArray) (le lh : List ByteArray) : (M :: O :: (le ++ lh)).all validB = (validB M && (validB O && (le.all validB && lh.all validB))) := by simp
end Go.Proofs.Ytcjbbneiobnmkaa

/- The reference of layer 36: Added, Update, Removed. -/
namespace Go.Proofs.Ytcjbbneiobnmkaa
open Go.RowKit Num
set_option maxRecDepth 20000
set_option linter.unusedVariables false
theorem addr_add' (b o j : Nat) : (⟨b, o, none⟩ : Addr).add j = ⟨b, o + j, none⟩ := by unfold Addr.add; split <;> simp_all
/-- a slice of numbers, appended to one of our own -/
theorem wpList_append_NS {w : World} {ops : Array Oper} {rest : List Oper} {o : Oper} {a : Act} {Q : Exit → Act → World → Prop} (hgd : o.guard = none) (s x : Operand)
    (ho : o.op = .call { callee := .builtin .append, args := #[s, x], argTypes := #[23, 23] })
    (base : Nat) (v : Value) (n : Nat) (L0 : List ByteArray) (hs : a.eval s = v) (hown : w.ownsRow base 22 1 v n (L0.map Value.string))
    (ao : Option Addr) (c m : Nat) (L : List ByteArray) (hm : L.length = m) (hx : a.eval x = .slice ao m c) (hno : ao = none → c = 0 ∧ m = 0) (hN : NS w ao L) (h63 : n + m ≤ 100000) (hbase : base ≤ w.heap.size)
    (h : ∀ v' w', w'.ownsRow base 22 1 v' (n + m) ((L0 ++ L).map Value.string) → Below base w w' → wpList Try.prog ops Q rest (a.put o.dst v') w') : wpList Try.prog ops Q (o :: rest) a w := by
  obtain ⟨i0, hi, hz0, hz1, hz2⟩ := info_parts info_nat
  subst hm
  cases ao with
  | none =>
    obtain ⟨rfl, h0⟩ := hno rfl
    have hL : L = [] := List.length_eq_zero_iff.1 h0
    subst hL
    refine wpList_append_own_none hgd s x 23 ho base 22 i0 1 Try.underlying23 hi v n _ hs hown hx ?_
    refine h v w ?_ (Below.refl _ _)
    simpa using hown
  | some ad =>
    refine wpList_append_own w hgd s x 23 ho base 22 i0 (.string ⟨#[]⟩) 1 16 Try.underlying23 hi hz0 hz1 hz2 rfl (by decide) v n _ hs hown ad L.length c (L.map Value.string) hx (by simp) ?_ ?_ (by unfold maxLen; omega) (by omega) hbase ?_
    · intro j u hu
      rw [List.getElem?_map] at hu
      cases hj : L[j]? with
      | none => rw [hj] at hu; cases hu
      | some y =>
        rw [hj] at hu
        obtain ⟨hlt, rfl⟩ := List.getElem?_eq_some_iff.1 hj
        cases hu
        obtain ⟨b, off, e, hc⟩ := hN j hlt
        cases e
        rw [addr_add']; exact hc
    · intro u hu
      obtain ⟨y, _, rfl⟩ := List.mem_map.1 hu
      rfl
    · intro v' w' hown' hgr _
      rw [← List.map_append] at hown'
      exact h v' w' hown' ((Below.refl base w).grown hgr hbase (fun q e => (own_ge hown q e).1))
theorem cl_of {l : List ByteArray} (h : l.all validB = true) {k : Nat} (hk : k < l.length) : cl l[k] = l[k] := if_pos (List.all_eq_true.1 h _ (List.getElem_mem hk))
theorem gm_ok2 {M O : ByteArray} {x y : Nat} (hg : gE M O = 0) (hx : elN (nv M) (nv O) x = true) (hy : elN (nv M) (nv O) y = true) : gmE M O (enc x) (enc y) = 0 ∧ gmS M O (enc x) (enc y) = enc (x * y % nv M) := by
  obtain ⟨hM, _, hm2, _⟩ := gE_ok hg
  have nx : IsN (enc x) x := IsN.mk' (Nat.le_trans (blen_mono (Nat.le_of_lt (el_lt hx))) hM.le)
  have ny : IsN (enc y) y := IsN.mk' (Nat.le_trans (blen_mono (Nat.le_of_lt (el_lt hy))) hM.le)
  have h0 : gmE M O (enc x) (enc y) = 0 := by
    unfold gmE
    rw [ck_last ⟨by simp [nx.valid, ny.valid], by simp⟩ hg]
    simp [nx.nv, ny.nv, hx, hy]
  exact ⟨h0, by rw [gmS, h0, mo_zero, nx.nv, ny.nv]⟩
/-- the product of two powers -/
theorem mul_exp {M O x acc : ByteArray} {X Y : Int} (hx : hasB M O x = true) (hy : hasB M O acc = true) (hX : ZOk X) (hY : ZOk Y) :
    gmE M O (gpS M O [x] [(zb X, zs X)]) (gpS M O [acc] [(zb Y, zs Y)]) = 0 ∧ gmS M O (gpS M O [x] [(zb X, zs X)]) (gpS M O [acc] [(zb Y, zs Y)]) = upP M O x acc X Y := by
  obtain ⟨g0, x2, x3⟩ := hasB_ok hx
  obtain ⟨_, y2, y3⟩ := hasB_ok hy
  obtain ⟨hM, _, hm2, _⟩ := gE_ok g0
  have e1 := gpS_one hx (ivB_z hX)
  have e2 := gpS_one hy (ivB_z hY)
  rw [e1, e2]
  obtain ⟨h1, h2⟩ := gm_ok2 g0 (el_pow hm2 (el_sb hm2 x3 (zb X)) (nv (zs X))) (el_pow hm2 (el_sb hm2 y3 (zb Y)) (nv (zs Y)))
  refine ⟨h1, ?_⟩
  rw [h2, upP, gpS, gp_two g0 hx hy hX hY, mo_zero]
  simp only [prs, List.zipWith_cons_cons, List.zipWith_nil_left, pr, Nat.mul_one]
  rw [← Nat.mul_mod]
end Go.Proofs.Ytcjbbneiobnmkaa
