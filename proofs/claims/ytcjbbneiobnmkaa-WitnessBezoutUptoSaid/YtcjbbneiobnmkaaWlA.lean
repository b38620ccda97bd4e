import Derived.Test.YtcjbbneiobnmkaaWtC
import Derived.Laws.AppendOwnNone
import Derived.Deep.RegionLawGrows
import Derived.Test.YtcjbbneiobnmkaaRgA
import Derived.Test.YtcjbbneiobnmkaaRwD
/- Layer 36, the laws' helpers: small, wrong. -/
namespace Go.Proofs.Ytcjbbneiobnmkaa
open Go.RowKit Num
set_option maxRecDepth 20000
set_option linter.unusedVariables false
/-- too long -/
def bigB (s : ByteArray) : Bool := decide (16 < s.size)
theorem fn_big (s : ByteArray) (w : World) (hs : s.size ≤ maxLen) : Calls Try.prog 14 #[.string s] w fun e w' => e = .returned (.bool (bigB s)) ∧ w = w' := by
  unfold maxLen at hs
  go_enter Try.func14, Try.ntmps14
  go_wp2_with fail
  go_ret
  exact ⟨ret_bool (by unfold bigB; exact decide_eq_decide.2 (by omega)), rfl⟩
theorem idx_big (ao : Option Addr) (c n : Nat) (l : List ByteArray) (w : World) (hl : NS w ao l) (hn : l.length = n) (h1 : n ≤ maxLen) (hsz : ∀ x ∈ l, x.size ≤ maxLen) :
    Calls Try.prog 26 #[.slice ao n c, .func (.func 14) #[] #[]] w fun e w' => (∃ x : Int, e = .returned (.int .i64 x) ∧ (decide (0 ≤ x) = l.any bigB)) ∧ w = w' := by
  unfold maxLen at h1
  have HN := Lib.hid hn
  have HSZ := Lib.hid hsz
  have HL := Lib.hid hl
  clear hn hl hsz
  go_enter Try.func26, Try.ntmps26
  go_wp2_with fail
  go_loop [8] (fun i => ∃ k : Nat, k ≤ n ∧ i = .int .i64 k ∧ Hid (∀ j (hj : j < l.length), j < k → ¬ bigB l[j] = true)) (fun i => n - (intOf i).toNat)
  case atStart => exact ⟨0, by omega, rfl, fun j _ h => by omega⟩
  case round =>
    obtain ⟨k, hk, rfl, hv⟩ := hrel
    by_cases hlt : k < n
    · have hkl : k < l.length := by rw [HN.out]; exact hlt
      obtain ⟨b, off, rfl, hc⟩ := HL.out k hkl
      obtain ⟨X, hX⟩ : ∃ X, l[k] = X := ⟨_, rfl⟩
      rw [hX] at hc
      have hXm : X ∈ l := by rw [← hX]; exact List.getElem_mem hkl
      cases he : bigB X
      · have HST : Hid (∀ j (hj : j < l.length), j < k + 1 → ¬ bigB l[j] = true) := fun j hj hjk => by
          by_cases e : j = k
          · subst e; rw [hX, he]; decide
          · exact hv.out j hj (by omega)
        have HE := Lib.hid he
        clear hX he hv
        go_wp2_with fail
        refine (fn_big X _ (HSZ.out X hXm)).mono ?_; rw [HE.out]; rintro e w1 ⟨rfl, rfl⟩
        go_wp2_with fail
        exact ⟨⟨k + 1, by omega, by go_num, HST⟩, by simp [intOf]; omega⟩
      · have HR : Hid (l.any bigB = true) := List.any_eq_true.2 ⟨X, by rw [← hX]; exact List.getElem_mem hkl, he⟩
        have HE := Lib.hid he
        clear hX he hv
        go_wp2_with fail
        refine (fn_big X _ (HSZ.out X hXm)).mono ?_; rw [HE.out]; rintro e w1 ⟨rfl, rfl⟩
        go_wp2_with fail
        go_ret
        exact ⟨⟨_, rfl, by rw [HR.out]; exact decide_eq_true (by omega)⟩, rfl⟩
    · obtain rfl : k = n := by omega
      have HR : Hid (l.any bigB = false) := by
        show l.any bigB = false
        rw [Bool.eq_false_iff]
        intro h
        obtain ⟨x, hx, hd⟩ := List.any_eq_true.1 h
        obtain ⟨j, hj, rfl⟩ := List.mem_iff_getElem.1 hx
        exact hv.out j hj (by rw [HN.out] at hj; exact hj) hd
      clear hv
      go_wp2_with fail
      go_ret
      exact ⟨⟨_, rfl, by rw [HR.out]; decide⟩, rfl⟩
theorem con_big (ao : Option Addr) (c n : Nat) (l : List ByteArray) (w : World) (hl : NS w ao l) (hn : l.length = n) (h1 : n ≤ maxLen) (hsz : ∀ x ∈ l, x.size ≤ maxLen) :
    Calls Try.prog 13 #[.slice ao n c, .func (.func 14) #[] #[]] w fun e w' => e = .returned (.bool (l.any bigB)) ∧ w = w' := by
  have H := Lib.hid (fun w hl => idx_big ao c n l w hl hn h1 hsz)
  have HL := Lib.hid hl
  clear hl
  go_enter Try.func13, Try.ntmps13
  go_wp2_with fail
  refine (H.out _ HL.out).mono ?_; rintro e w1 ⟨⟨x, rfl, hx⟩, rfl⟩
  have HX := Lib.hid hx
  clear hx
  go_wp2_with fail
  go_ret
  exact ⟨ret_bool HX.out, rfl⟩
/-- not canonical, or 0 -/
def wrB (s : ByteArray) : Bool := s.toList.isEmpty || !validB s
theorem fn_wr (s : ByteArray) (w : World) : Calls Try.prog 15 #[.string s] w fun e w' => e = .returned (.bool (wrB s)) ∧ w = w' := by
  by_cases h0 : s.size = 0
  · obtain rfl : s = ⟨#[]⟩ := by cases s with | mk d => simp [ByteArray.size] at h0; simp [h0]
    have HR := Lib.hid (show wrB ⟨#[]⟩ = true by decide +kernel)
    go_enter Try.func15, Try.ntmps15
    go_wp2_with fail
    go_ret
    exact ⟨ret_bool HR.out.symm, rfl⟩
  · obtain ⟨n1, n2⟩ := tl_ne h0
    have HR := Lib.hid (show wrB s = !validB s by unfold wrB; rw [n2]; rfl)
    cases hv : validB s
    all_goals
      rw [hv] at HR
      have HV := Lib.hid hv
      clear hv
      go_enter Try.func15, Try.ntmps15
      go_wp2_with fail
      refine (refValid_any _ _).mono ?_; rw [HV.out]; rintro e w1 ⟨rfl, rfl⟩
      go_wp2_with fail
      go_ret
      exact ⟨ret_bool HR.out.symm, rfl⟩
theorem idx_wr (ao : Option Addr) (c n : Nat) (l : List ByteArray) (w : World) (hl : NS w ao l) (hn : l.length = n) (h1 : n ≤ maxLen) :
    Calls Try.prog 26 #[.slice ao n c, .func (.func 15) #[] #[]] w fun e w' => (∃ x : Int, e = .returned (.int .i64 x) ∧ (decide (0 ≤ x) = l.any wrB)) ∧ w = w' := by
  unfold maxLen at h1
  have HN := Lib.hid hn
  have HL := Lib.hid hl
  clear hn hl
  go_enter Try.func26, Try.ntmps26
  go_wp2_with fail
  go_loop [8] (fun i => ∃ k : Nat, k ≤ n ∧ i = .int .i64 k ∧ Hid (∀ j (hj : j < l.length), j < k → ¬ wrB l[j] = true)) (fun i => n - (intOf i).toNat)
  case atStart => exact ⟨0, by omega, rfl, fun j _ h => by omega⟩
  case round =>
    obtain ⟨k, hk, rfl, hv⟩ := hrel
    by_cases hlt : k < n
    · have hkl : k < l.length := by rw [HN.out]; exact hlt
      obtain ⟨b, off, rfl, hc⟩ := HL.out k hkl
      obtain ⟨X, hX⟩ : ∃ X, l[k] = X := ⟨_, rfl⟩
      rw [hX] at hc
      cases he : wrB X
      · have HST : Hid (∀ j (hj : j < l.length), j < k + 1 → ¬ wrB l[j] = true) := fun j hj hjk => by
          by_cases e : j = k
          · subst e; rw [hX, he]; decide
          · exact hv.out j hj (by omega)
        have HE := Lib.hid he
        clear hX he hv
        go_wp2_with fail
        refine (fn_wr X _).mono ?_; rw [HE.out]; rintro e w1 ⟨rfl, rfl⟩
        go_wp2_with fail
        exact ⟨⟨k + 1, by omega, by go_num, HST⟩, by simp [intOf]; omega⟩
      · have HR : Hid (l.any wrB = true) := List.any_eq_true.2 ⟨X, by rw [← hX]; exact List.getElem_mem hkl, he⟩
        have HE := Lib.hid he
        clear hX he hv
        go_wp2_with fail
        refine (fn_wr X _).mono ?_; rw [HE.out]; rintro e w1 ⟨rfl, rfl⟩
        go_wp2_with fail
        go_ret
        exact ⟨⟨_, rfl, by rw [HR.out]; exact decide_eq_true (by omega)⟩, rfl⟩
    · obtain rfl : k = n := by omega
      have HR : Hid (l.any wrB = false) := by
        show l.any wrB = false
        rw [Bool.eq_false_iff]
        intro h
        obtain ⟨x, hx, hd⟩ := List.any_eq_true.1 h
        obtain ⟨j, hj, rfl⟩ := List.mem_iff_getElem.1 hx
        exact hv.out j hj (by rw [HN.out] at hj; exact hj) hd
      clear hv
      go_wp2_with fail
      go_ret
      exact ⟨⟨_, rfl, by rw [HR.out]; decide⟩, rfl⟩
theorem con_wr (ao : Option Addr) (c n : Nat) (l : List ByteArray) (w : World) (hl : NS w ao l) (hn : l.length = n) (h1 : n ≤ maxLen) :
    Calls Try.prog 13 #[.slice ao n c, .func (.func 15) #[] #[]] w fun e w' => e = .returned (.bool (l.any wrB)) ∧ w = w' := by
  have H := Lib.hid (fun w hl => idx_wr ao c n l w hl hn h1)
  have HL := Lib.hid hl
  clear hl
  go_enter Try.func13, Try.ntmps13
  go_wp2_with fail
  refine (H.out _ HL.out).mono ?_; rintro e w1 ⟨⟨x, rfl, hx⟩, rfl⟩
  have HX := Lib.hid hx
  clear hx
  go_wp2_with fail
  go_ret
  exact ⟨ret_bool HX.out, rfl⟩
theorem wrong_any (ao : Option Addr) (c n : Nat) (l : List ByteArray) (w : World) (hl : NS w ao l) (hn : l.length = n) (h1 : n ≤ maxLen) :
    Calls Try.prog 5 #[.slice ao n c] w fun e w' => e = .returned (.bool (l.any wrB)) ∧ w = w' := by
  have H := Lib.hid (fun w hl => con_wr ao c n l w hl hn h1)
  have HL := Lib.hid hl
  clear hl
  go_enter Try.func5, Try.ntmps5
  go_wp2_with fail
  refine (H.out _ HL.out).mono ?_; rintro e w1 ⟨rfl, rfl⟩
  go_wp2_with fail
  go_ret
  exact ⟨rfl, rfl⟩
/-- a variable of type Change -/
def CB (W : World) (b : Nat) (u wt : ByteArray) (a1 : Option Addr) (n1 c1 : Nat) (a2 : Option Addr) (n2 c2 : Nat) (acc : ByteArray) : Prop :=
  W.heap[b]? = some (.cells #[.string u, .string wt, .slice a1 n1 c1, .slice a2 n2 c2, .string acc] 25 (0, 0))
section
variable {W W' : World} {b : Nat} {u wt : ByteArray} {a1 : Option Addr} {n1 k1 : Nat} {a2 : Option Addr} {n2 k2 : Nat} {acc : ByteArray}
theorem CB.lt (h : CB W b u wt a1 n1 k1 a2 n2 k2 acc) : b < W.heap.size := (Array.getElem?_eq_some_iff.1 h).1
theorem CB.c0 (h : CB W b u wt a1 n1 k1 a2 n2 k2 acc) : W.cell? ⟨b, 0, none⟩ = some (.string u) := by rw [Lib.cell_of_heap h]; rfl
theorem CB.c1 (h : CB W b u wt a1 n1 k1 a2 n2 k2 acc) : W.cell? ⟨b, 1, none⟩ = some (.string wt) := by rw [Lib.cell_of_heap h]; rfl
theorem CB.c2 (h : CB W b u wt a1 n1 k1 a2 n2 k2 acc) : W.cell? ⟨b, 2, none⟩ = some (.slice a1 n1 k1) := by rw [Lib.cell_of_heap h]; rfl
theorem CB.c3 (h : CB W b u wt a1 n1 k1 a2 n2 k2 acc) : W.cell? ⟨b, 3, none⟩ = some (.slice a2 n2 k2) := by rw [Lib.cell_of_heap h]; rfl
theorem CB.c4 (h : CB W b u wt a1 n1 k1 a2 n2 k2 acc) : W.cell? ⟨b, 4, none⟩ = some (.string acc) := by rw [Lib.cell_of_heap h]; rfl
theorem CB.new (W : World) (u wt : ByteArray) (a1 : Option Addr) (n1 k1 : Nat) (a2 : Option Addr) (n2 k2 : Nat) (acc : ByteArray) : CB (W.alloc (.cells #[.string u, .string wt, .slice a1 n1 k1, .slice a2 n2 k2, .string acc] 25)) W.heap.size u wt a1 n1 k1 a2 n2 k2 acc := heap_alloc_new W _
theorem CB.below {K : Nat} (h : CB W b u wt a1 n1 k1 a2 n2 k2 acc) (hb : Below K W W') (hB : b < K) : CB W' b u wt a1 n1 k1 a2 n2 k2 acc := (hb.block b hB).trans h
theorem CB.alloc (h : CB W b u wt a1 n1 k1 a2 n2 k2 acc) (o : Obj) : CB (W.alloc o) b u wt a1 n1 k1 a2 n2 k2 acc := (Below.heap_alloc W o b h.lt).trans h
theorem CB.drew (h : CB W b u wt a1 n1 k1 a2 n2 k2 acc) : CB W.drew b u wt a1 n1 k1 a2 n2 k2 acc := h
end
theorem box_kc (w : World) (nm M O Z S : ByteArray) (rv : Value) (U H u wt : ByteArray) (a1 : Option Addr) (n1 c1 : Nat) (a2 : Option Addr) (n2 c2 : Nat) (acc : ByteArray) :
    ∃ w1, (w.alloc (.cells #[.string nm, .string M, .string O, .string Z, .string S, rv, .string U, .string H] 30)).alloc (.cells #[.string u, .string wt, .slice a1 n1 c1, .slice a2 n2 c2, .string acc] 25) = w1 ∧
      KB w1 w.heap.size nm M O Z S rv U H ∧ CB w1 (w.heap.size + 1) u wt a1 n1 c1 a2 n2 c2 acc ∧ Below w.heap.size w w1 := by
  refine ⟨_, rfl, (KB.new w nm M O Z S rv U H).alloc _, ?_, ((Below.refl _ w).alloc (Nat.le_refl _) _).alloc (by simp) _⟩
  have := CB.new (w.alloc (.cells #[.string nm, .string M, .string O, .string Z, .string S, rv, .string U, .string H] 30)) u wt a1 n1 c1 a2 n2 c2 acc
  rw [World.size_alloc] at this
  exact this
theorem addr_add'' (b o j : Nat) : (⟨b, o, none⟩ : Addr).add j = ⟨b, o + j, none⟩ := by unfold Addr.add; split <;> simp_all
/-- a slice of numbers, appended to one of our own: an operation of a region that draws its order -/
theorem step_append_NS {w : World} {ops : Array Oper} {o : Oper} {a : Act} {K : Act → World → Prop} {Q : Exit → Act → World → Prop} {E : Prop} (hgd : o.guard = none) (s x : Operand)
    (ho : o.op = .call { callee := .builtin .append, args := #[s, x], argTypes := #[23, 23] })
    (base : Nat) (v : Value) (n : Nat) (L0 : List ByteArray) (hs : a.eval s = v) (hown : w.ownsRow base 22 1 v n (L0.map Value.string))
    (ao : Option Addr) (c m : Nat) (L : List ByteArray) (hm : L.length = m) (hx : a.eval x = .slice ao m c) (hno : ao = none → c = 0 ∧ m = 0) (hN : NS w ao L) (h63 : n + m ≤ maxLen) (hbytes : (n + m) * 16 ≤ 140737488355328) (hbase : base ≤ w.heap.size)
    (h : ∀ v' w', w'.ownsRow base 22 1 v' (n + m) ((L0 ++ L).map Value.string) → Below base w w' → K (a.put o.dst v') w') :
    if Region.wanted o (yielded ops a.tmps) = true then Oper.wp Try.prog o a w K Q else E := by
  have hw : Region.wanted o (yielded ops a.tmps) = true := by simp [Region.wanted, hgd]
  rw [if_pos hw]
  obtain ⟨i0, hi, hz0, hz1, hz2⟩ := info_parts info_nat
  subst hm
  cases ao with
  | none =>
    obtain ⟨rfl, h0⟩ := hno rfl
    have hL : L = [] := List.length_eq_zero_iff.1 h0
    subst hL
    have hrun := run_append_owned_none (P := Try.prog) (w := w) base 23 o.type 22 i0 1 Try.underlying23 hi v n _ hown
    have hx' : a.eval x = .slice none 0 0 := hx
    unfold Oper.wp
    simp [execOp, ho, resolve, invoke, builtin, hs, hx', hrun, Result.andThen]
    exact h v w (by simpa using hown) (Below.refl _ _)
  | some ad =>
    refine wp_append_own w s x 23 ho base 22 i0 (.string ⟨#[]⟩) 1 16 Try.underlying23 hi hz0 hz1 hz2 rfl (by decide) v n _ hs hown ad L.length c (L.map Value.string) hx (by simp) ?_ ?_ h63 hbytes hbase ?_
    · intro j u hu
      rw [List.getElem?_map] at hu
      cases hj : L[j]? with
      | none => rw [hj] at hu; cases hu
      | some y =>
        rw [hj] at hu
        obtain ⟨hlt, rfl⟩ := List.getElem?_eq_some_iff.1 hj
        cases hu
        obtain ⟨b, off, e, hc⟩ := hN j hlt
        cases e
        rw [addr_add'']; exact hc
    · intro u hu
      obtain ⟨y, _, rfl⟩ := List.mem_map.1 hu
      rfl
    · intro v' w' hown' hgr _
      rw [← List.map_append] at hown'
      exact h v' w' hown' ((Below.refl base w).grown hgr hbase (fun q e => (own_ge hown q e).1))
theorem own_five (w : World) (s0 s1 s2 s3 s4 : ByteArray) : (w.alloc (.cells #[.string s0, .string s1, .string s2, .string s3, .string s4] 22)).ownsRow w.heap.size 22 1 (.slice (some ⟨w.heap.size, 0, none⟩) 5 5) 5 ([s0, s1, s2, s3, s4].map Value.string) :=
  ⟨rfl, .inr ⟨w.heap.size, 5, #[.string s0, .string s1, .string s2, .string s3, .string s4], rfl, Nat.le_refl _, heap_alloc_new w _, by omega, by unfold maxLen; omega, rfl, rfl⟩⟩
/-- a key and a change are small -/
def smB (M O u wt acc : ByteArray) (la ld : List ByteArray) : Bool := decide (la.length ≤ 20) && (decide (ld.length ≤ 20) && !(([M, O, u, wt, acc] ++ la) ++ ld).any bigB)
set_option maxHeartbeats 8000000 in
theorem small_any (nm M O Z S : ByteArray) (rv : Value) (U H u wt : ByteArray) (a1 : Option Addr) (n1 c1 : Nat) (a2 : Option Addr) (n2 c2 : Nat) (acc : ByteArray) (la ld : List ByteArray) (w : World)
    (hl1 : NS w a1 la) (hl2 : NS w a2 ld) (hn1 : la.length = n1) (hn2 : ld.length = n2) (h1 : n1 ≤ 1048576) (h2 : n2 ≤ 1048576) (ho1 : a1 = none → c1 = 0 ∧ n1 = 0) (ho2 : a2 = none → c2 = 0 ∧ n2 = 0)
    (hsz : ∀ x ∈ ([M, O, u, wt, acc] ++ la) ++ ld, x.size ≤ maxLen) :
    Calls Try.prog 4 #[.agg #[.string nm, .string M, .string O, .string Z, .string S, rv, .string U, .string H], .agg #[.string u, .string wt, .slice a1 n1 c1, .slice a2 n2 c2, .string acc]] w fun e w' => e = .returned (.bool (smB M O u wt acc la ld)) ∧ Below w.heap.size w w' := by
  obtain ⟨W0, hW0, hK, hC, hb⟩ := box_kc w nm M O Z S rv U H u wt a1 n1 c1 a2 n2 c2 acc
  have k1 := hK.c1
  have k2 := hK.c2
  have k3 := hC.c0
  have k4 := hC.c1
  have k5 := hC.c4
  have hA := (Below.refl _ W0).alloc (Nat.le_refl _) (.cells #[.string M, .string O, .string u, .string wt, .string acc] 22)
  have hown := own_five W0 M O u wt acc
  have hL1 := (hl1.below hb (Nat.le_refl _)).below hA (Nat.le_refl _)
  have HLL := Lib.hid (And.intro (hl1.below hb (Nat.le_refl _)) (hl2.below hb (Nat.le_refl _)))
  obtain ⟨W1, hW1⟩ : ∃ W1, W0.alloc (.cells #[.string M, .string O, .string u, .string wt, .string acc] 22) = W1 := ⟨_, rfl⟩
  rw [hW1] at hA hown hL1
  have hown' : W1.drew.ownsRow W0.heap.size 22 1 (.slice (some ⟨W0.heap.size, 0, none⟩) 5 5) 5 ([M, O, u, wt, acc].map Value.string) := hown
  have HOWN := Lib.hid hown'
  have hL1' : NS W1.drew a1 la := hL1
  have HL1 := Lib.hid hL1'
  have HNN := Lib.hid (And.intro hn1 hn2)
  have HNO := Lib.hid (And.intro ho1 ho2)
  have HSZ := Lib.hid hsz
  have HA := Lib.hid (show Below W0.heap.size W0 W1.drew from hA.drew)
  have hz1 : W0.heap.size ≤ W1.drew.heap.size := hA.size
  have hC1 : CB W1.drew (w.heap.size + 1) u wt a1 n1 c1 a2 n2 c2 acc := (hC.below hA hC.lt).drew
  have j2 := hC1.c2
  have j3 := hC1.c3
  clear hl1 hl2 hn1 hn2 ho1 ho2 hsz hown hown' hL1 hL1' hA
  go_enter Try.func4, Try.ntmps4
  go_wp2_with fail
  go_region_law (first
    | ((with_reducible refine step_append_NS ?_ (.tmp 19) (.tmp 21) ?_ W0.heap.size (.slice (some ⟨W0.heap.size, 0, none⟩) 5 5) 5 [M, O, u, wt, acc] ?_ HOWN.out a1 c1 n1 la HNN.out.1 ?_ HNO.out.1 HL1.out ?_ ?_ hz1 ?_); (· rfl); (· rfl); (· simp [Act.eval]); (· simp [Act.eval]); (· unfold maxLen; omega); (· omega); intro v1 W2 hown1 hB1; have HOWN2 := Lib.hid hown1; have HB1 := Lib.hid (HA.out.trans hB1); have HL2 := Lib.hid (HLL.out.2.below HB1.out (Nat.le_refl _)); have hz2 : W0.heap.size ≤ W2.heap.size := HB1.out.size; have hC2 := hC.below HB1.out hC.lt; have e2 := hC2.c2; have e3 := hC2.c3; clear hown1 hB1)
    | ((with_reducible refine step_append_NS ?_ (.tmp 22) (.tmp 24) ?_ W0.heap.size v1 (5 + n1) ([M, O, u, wt, acc] ++ la) ?_ HOWN2.out a2 c2 n2 ld HNN.out.2 ?_ HNO.out.2 HL2.out ?_ ?_ hz2 ?_); (· rfl); (· rfl); (· simp [Act.eval]); (· simp [Act.eval]); (· unfold maxLen; omega); (· omega); intro v2 W3 hown2 hB2; have HOWN3 := Lib.hid hown2; have HB2 := Lib.hid (HB1.out.trans hB2); clear hown2 hB2))
  all_goals
    obtain ⟨ao, co, rfl, hNS⟩ := own_NS HOWN3.out
    have hC3 := hC.below HB2.out hC.lt
    have g2 := hC3.c2
    have g3 := hC3.c3
    have hb3 := hb.trans (HB2.out.mono hb.size)
    have HCON := Lib.hid (con_big ao co (5 + n1 + n2) (([M, O, u, wt, acc] ++ la) ++ ld) W3 hNS (by simp only [List.length_append, HNN.out.1, HNN.out.2, List.length_cons, List.length_nil]) (by unfold maxLen; omega) HSZ.out)
    by_cases l1 : n1 ≤ 20
    · by_cases l2 : n2 ≤ 20
      · cases hbig : (([M, O, u, wt, acc] ++ la) ++ ld).any bigB
        · have HR := Lib.hid (show smB M O u wt acc la ld = true by unfold smB; rw [HNN.out.1, HNN.out.2, decide_eq_true l1, decide_eq_true l2, hbig]; rfl)
          rw [hbig] at HCON
          clear hbig
          go_wp2_with fail
          refine HCON.out.mono ?_; rintro e w5 ⟨rfl, rfl⟩
          go_wp2_with fail
          go_ret
          exact ⟨ret_bool HR.out.symm, hb3⟩
        · have HR := Lib.hid (show smB M O u wt acc la ld = false by unfold smB; rw [HNN.out.1, HNN.out.2, decide_eq_true l1, decide_eq_true l2, hbig]; rfl)
          rw [hbig] at HCON
          clear hbig
          go_wp2_with fail
          refine HCON.out.mono ?_; rintro e w5 ⟨rfl, rfl⟩
          go_wp2_with fail
          go_ret
          exact ⟨ret_bool HR.out.symm, hb3⟩
      · have HR := Lib.hid (show smB M O u wt acc la ld = false by unfold smB; rw [HNN.out.1, HNN.out.2, decide_eq_false l2, Bool.false_and, Bool.and_false])
        clear HCON
        go_wp2_with fail
        go_ret
        exact ⟨ret_bool HR.out.symm, hb3⟩
    · have HR := Lib.hid (show smB M O u wt acc la ld = false by unfold smB; rw [HNN.out.1, HNN.out.2, decide_eq_false l1, Bool.false_and])
      clear HCON
      go_wp2_with fail
      go_ret
      exact ⟨ret_bool HR.out.symm, hb3⟩
end Go.Proofs.Ytcjbbneiobnmkaa

/- Layer 36, the laws' helpers: group, awake, raised. -/
namespace Go.Proofs.Ytcjbbneiobnmkaa
open Go.RowKit Num
set_option maxRecDepth 20000
set_option linter.unusedVariables false
/-- raised to each of some numbers -/
def raS (M O x : ByteArray) (l : List ByteArray) : ByteArray := l.foldl (fun x n => gpS M O [x] [(false, n)]) x
theorem raS_take (M O x : ByteArray) (l : List ByteArray) (k : Nat) (hk : k < l.length) : raS M O x (l.take (k + 1)) = gpS M O [raS M O x (l.take k)] [(false, l[k])] := by
  rw [List.take_succ_eq_append_getElem hk, raS, List.foldl_append]; rfl
theorem info_key : (Try.prog.info? 30).map (·.size) = some 8 := by kernel_rfl
theorem group_any (w : World) : Calls Try.prog 18 #[] w fun e w' => e = .returned (.agg #[.string ⟨#[]⟩, .string ⟨#[77]⟩, .string ⟨#[]⟩, .string ⟨#[]⟩, .string ⟨#[]⟩, .slice none 0 0, .string ⟨#[]⟩, .string ⟨#[]⟩]) ∧ Below w.heap.size w w' := by
  have hK := KB.new w ⟨#[]⟩ ⟨#[]⟩ ⟨#[]⟩ ⟨#[]⟩ ⟨#[]⟩ (.slice none 0 0) ⟨#[]⟩ ⟨#[]⟩
  have hb := (Below.refl _ w).alloc (Nat.le_refl _) (.cells #[.string ⟨#[]⟩, .string ⟨#[]⟩, .string ⟨#[]⟩, .string ⟨#[]⟩, .string ⟨#[]⟩, .slice none 0 0, .string ⟨#[]⟩, .string ⟨#[]⟩] 30)
  go_enter Try.func18, Try.ntmps18
  go_wp2_with fail
  exact bodyPost_ret (results_cell_row rfl _ _ w.heap.size _ _ (0, 0) _ rfl (heap_alloc_new w _) Try.underlying30 rfl info_key) rfl ⟨rfl, (Below.refl _ w).alloc (Nat.le_refl _) _⟩
theorem k_gx : gxE ⟨#[3]⟩ [⟨#[7]⟩] [⟨#[5]⟩] = 0 := by decide +kernel
theorem k_gX : zb (zif 0 (wxX ⟨#[3]⟩ [⟨#[7]⟩] [⟨#[5]⟩])) = true ∧ zs (zif 0 (wxX ⟨#[3]⟩ [⟨#[7]⟩] [⟨#[5]⟩])) = ⟨#[7]⟩ := by decide +kernel
theorem k_gY : zb (zif 0 (wxY ⟨#[3]⟩ [⟨#[7]⟩] [⟨#[5]⟩])) = false ∧ zs (zif 0 (wxY ⟨#[3]⟩ [⟨#[7]⟩] [⟨#[5]⟩])) = ⟨#[2]⟩ := by decide +kernel
theorem k_up : upE ⟨#[77]⟩ ⟨#[]⟩ ⟨#[23]⟩ ⟨#[64]⟩ ⟨#[3]⟩ [] [⟨#[5]⟩] = 0 ∧ upS ⟨#[77]⟩ ⟨#[]⟩ ⟨#[23]⟩ ⟨#[64]⟩ ⟨#[3]⟩ [] [⟨#[5]⟩] = ⟨#[4]⟩ := by decide +kernel
set_option maxHeartbeats 4000000 in
theorem awakeW (w : World) : Calls Try.prog 6 #[] w fun e w' => e = .returned (.bool true) ∧ Below w.heap.size w w' := by
  have hN0 := (ns_one w ⟨#[7]⟩).below ((Below.refl _ (w.alloc (.cells #[.string ⟨#[7]⟩] 22))).alloc (Nat.le_refl _) (.cells #[.string ⟨#[5]⟩] 22)) (Nat.le_refl _)
  have hN1 := ns_one (w.alloc (.cells #[.string ⟨#[7]⟩] 22)) ⟨#[5]⟩
  rw [World.size_alloc] at hN1
  have hb := ((Below.refl _ w).alloc (Nat.le_refl _) (.cells #[.string ⟨#[7]⟩] 22)).alloc (by simp) (.cells #[.string ⟨#[5]⟩] 22)
  have HE := Lib.hid (fun (W : World) p q (h1 : NS W p [⟨#[7]⟩]) (h2 : NS W q [⟨#[5]⟩]) => wExponents_any ⟨#[3]⟩ p q 1 1 1 1 [⟨#[7]⟩] [⟨#[5]⟩] W h1 h2 rfl rfl (by omega) (by omega))
  unfold XG at HE
  rw [k_gx, k_gX.1, k_gX.2, k_gY.1, k_gY.2] at HE
  have HR := Lib.hid (fun w => removed_any ⟨#[]⟩ ⟨#[77]⟩ ⟨#[]⟩ ⟨#[]⟩ ⟨#[]⟩ (.slice none 0 0) ⟨#[]⟩ ⟨#[]⟩ ⟨#[23]⟩ ⟨#[3]⟩ ⟨#[5]⟩ ⟨#[64]⟩ w)
  rw [k_up.1, k_up.2] at HR
  go_enter Try.func6, Try.ntmps6
  go_wp2_with fail
  generalize World.alloc (World.alloc w _) _ = w1 at hN0 hN1 hb ⊢
  refine (HE.out _ _ _ hN0 hN1).mono ?_; rintro e w2 ⟨rfl, b2⟩
  have hb2 := hb.trans (b2.mono hb.size)
  have hI1 := (IB.new w2 true ⟨#[7]⟩)
  have hI2 := (IB.new (w2.alloc (.cells #[.bool true, .string ⟨#[7]⟩] 34)) false ⟨#[2]⟩)
  rw [World.size_alloc] at hI2
  have hI1' : IB ((w2.alloc (.cells #[.bool true, .string ⟨#[7]⟩] 34)).alloc (.cells #[.bool false, .string ⟨#[2]⟩] 34)) w2.heap.size true ⟨#[7]⟩ := (Below.heap_alloc _ _ _ hI1.lt).trans hI1
  have hb3 := (hb2.alloc hb2.size (.cells #[.bool true, .string ⟨#[7]⟩] 34)).alloc (by have := hb2.size; simp; omega) (.cells #[.bool false, .string ⟨#[2]⟩] 34)
  go_wp2_with fail
  generalize w2.heap.size = p at hI1' hI2 ⊢
  generalize World.alloc (World.alloc w2 _) _ = w3 at hI1' hI2 hb3 ⊢
  refine (group_any _).mono ?_; rintro e w4 ⟨rfl, b4⟩
  have hJ1 := hI1'.below b4 hI1'.lt
  have hJ2 := hI2.below b4 hI2.lt
  have hb4 := hb3.trans (b4.mono hb3.size)
  go_wp2_with fail
  refine (HR.out _).mono ?_; rintro e w5 ⟨rfl, b5⟩
  have hL1 := hJ1.below b5 hJ1.lt
  have hL2 := hJ2.below b5 hJ2.lt
  have hb5 := hb4.trans (b5.mono hb4.size)
  have c0 := hL1.c0
  have c1 := hL1.c1
  have d0 := hL2.c0
  have d1 := hL2.c1
  go_wp2_with fail
  go_ret
  exact ⟨rfl, hb5⟩
end Go.Proofs.Ytcjbbneiobnmkaa

/- The laws Exponents, Updates, Steps of layer 36. -/
namespace Go.Proofs.Ytcjbbneiobnmkaa
open Go.RowKit Num
set_option maxRecDepth 20000
set_option linter.unusedVariables false
/-- the lists of a change -/
structure CA (w : World) (a1 : Option Addr) (n1 c1 : Nat) (la : List ByteArray) (a2 : Option Addr) (n2 c2 : Nat) (ld : List ByteArray) : Prop where
  l1 : NS w a1 la
  l2 : NS w a2 ld
  e1 : la.length = n1
  e2 : ld.length = n2
  b1 : n1 ≤ 1048576
  b2 : n2 ≤ 1048576
  o1 : a1 = none → c1 = 0 ∧ n1 = 0
  o2 : a2 = none → c2 = 0 ∧ n2 = 0
theorem CA.below {w w' : World} {a1 : Option Addr} {n1 c1 : Nat} {la : List ByteArray} {a2 : Option Addr} {n2 c2 : Nat} {ld : List ByteArray} (h : CA w a1 n1 c1 la a2 n2 c2 ld) {K : Nat} (hb : Below K w w') (hK : w.heap.size ≤ K) : CA w' a1 n1 c1 la a2 n2 c2 ld :=
  ⟨h.l1.below hb hK, h.l2.below hb hK, h.e1, h.e2, h.b1, h.b2, h.o1, h.o2⟩
theorem small_ca (nm M O Z S : ByteArray) (rv : Value) (U H u wt : ByteArray) (a1 : Option Addr) (n1 c1 : Nat) (a2 : Option Addr) (n2 c2 : Nat) (acc : ByteArray) (la ld : List ByteArray) (hsz : ∀ x ∈ ([M, O, u, wt, acc] ++ la) ++ ld, x.size ≤ maxLen) (w : World)
    (h : CA w a1 n1 c1 la a2 n2 c2 ld) :
    Calls Try.prog 4 #[.agg #[.string nm, .string M, .string O, .string Z, .string S, rv, .string U, .string H], .agg #[.string u, .string wt, .slice a1 n1 c1, .slice a2 n2 c2, .string acc]] w fun e w' => e = .returned (.bool (smB M O u wt acc la ld)) ∧ Below w.heap.size w w' :=
  small_any nm M O Z S rv U H u wt a1 n1 c1 a2 n2 c2 acc la ld w h.l1 h.l2 h.e1 h.e2 h.b1 h.b2 h.o1 h.o2 hsz
theorem smB_ok {M O u wt acc : ByteArray} {la ld : List ByteArray} (h : smB M O u wt acc la ld = true) : la.length ≤ 20 ∧ ld.length ≤ 20 ∧ M.size ≤ 64 ∧ ∀ x ∈ ([M, O, u, wt, acc] ++ la) ++ ld, x.size ≤ 16 := by
  unfold smB at h
  rw [Bool.and_eq_true, Bool.and_eq_true, Bool.not_eq_true'] at h
  have h4 : ∀ x ∈ ([M, O, u, wt, acc] ++ la) ++ ld, x.size ≤ 16 := fun x hx => by
    rcases Nat.lt_or_ge 16 x.size with hc | hc
    · have h2 : (([M, O, u, wt, acc] ++ la) ++ ld).any bigB = true := List.any_eq_true.2 ⟨x, hx, (decide_eq_true hc : bigB x = true)⟩
      rw [h2] at h; exact absurd h.2.2 (by decide)
    · exact hc
  have := h4 M (by simp)
  exact ⟨of_decide_eq_true h.1, of_decide_eq_true h.2.1, by omega, h4⟩
end Go.Proofs.Ytcjbbneiobnmkaa
