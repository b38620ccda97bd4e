import Derived.Test.YtjminjliomffaaaDoorFac
import Derived.Test.YtjminjliomffaaaDoorPrmC
import Derived.Test.YtjminjliomffaaaDoorMod
import Derived.Maps.AppendAt
import Derived.RangeFuncBox
/- prime.Factors and its reference. -/
namespace Go.Proofs.YtjminjliomffaaaDoor
open Go.RowKit Go.Shelf Num
set_option maxRecDepth 20000
set_option linter.unusedVariables false
attribute [local go_sem] Oper.semAt_some

theorem Num.Fac.mem_le : ∀ {b : Bool} {n p : Nat} {l : List Nat}, Fac b n p l → 1 ≤ n → 2 ≤ p → ∀ x ∈ l, x ≤ n := by
  intro b n p l h
  induction h with
  | enter h _ ih => exact ih
  | last h h1n => intro h1 h2 x hx; simp at hx; omega
  | one h h1n => intro h1 h2 x hx; simp at hx
  | div h _ ih =>
    rename_i n p l _
    intro h1 h2 x hx
    have hpn : p ≤ n := Nat.le_of_dvd (by omega) (Nat.dvd_of_mod_eq_zero h)
    have hd1 : 1 ≤ n / p := (Nat.le_div_iff_mul_le (by omega)).2 (by omega)
    rcases List.mem_cons.1 hx with e | hx
    · omega
    · exact Nat.le_trans (ih hd1 h2 x hx) (Nat.div_le_self _ _)
  | next h _ ih => intro h1 h2; exact ih h1 (by omega)
/-- a slice of strings -/
def SL (W : World) (v : Value) (L : List ByteArray) : Prop := (v = .slice none 0 0 ∧ L = []) ∨ ∃ b c, v = .slice (some ⟨b, 0, none⟩) L.length c ∧ L.length ≤ c ∧ b < W.heap.size ∧ StrAt W b L
theorem SL.below {W W' : World} {v : Value} {L : List ByteArray} (h : SL W v L) (hb : Below W.heap.size W W') : SL W' v L := by
  rcases h with h | ⟨b, c, h1, h2, h3, h4⟩
  · exact .inl h
  · exact .inr ⟨b, c, h1, h2, Nat.lt_of_lt_of_le h3 hb.size, h4.below hb h3⟩
theorem SL.of_own {W : World} {B : Nat} {v : Value} {L : List ByteArray} (h : W.ownsRow B 27 1 v L.length (L.map Value.string)) : SL W v L := by
  rcases Nat.eq_zero_or_pos L.length with h0 | h0
  · rcases h.2 with ⟨h1, _⟩ | ⟨g, cap, cur, rfl, _, h2, h3, _, _⟩
    · exact .inl ⟨h1, List.length_eq_zero_iff.1 h0⟩
    · exact .inr ⟨g, cap, rfl, h3, (Array.getElem?_eq_some_iff.1 h2).1, fun j hj => by omega⟩
  · obtain ⟨g, cap, rfl, _, h3, h4⟩ := own_str h h0
    exact .inr ⟨g, cap, rfl, h3, World.block_lt_of_cell? W _ (h4 0 h0), h4⟩
theorem prFactors_bad (s : ByteArray) (w : World) (hv : validB s = false) :
    Calls Tryd.prog 24 #[.string s] w fun e w' => e = .returned (.tuple #[.slice none 0 0, .int .i64 3]) ∧ Below w.heap.size w w' := by
  have H1 := Lib.hid hv
  clear hv
  go_enter Tryd.func24, Tryd.ntmps24
  go_wp2_with fail
  refine (prsmall_bad _ _ H1.out).mono ?_; rintro e w' ⟨rfl, rfl⟩
  go_wp2_with fail
  go_ret2
  exact ⟨rfl, Below.refl _ _⟩
theorem prFactors_long (s : ByteArray) (w : World) (hv : validB s = true) (h8 : 8 < s.size) :
    Calls Tryd.prog 24 #[.string s] w fun e w' => e = .returned (.tuple #[.slice none 0 0, .int .i64 5]) ∧ Below w.heap.size w w' := by
  have H1 := Lib.hid (And.intro hv h8)
  clear hv h8
  go_enter Tryd.func24, Tryd.ntmps24
  go_wp2_with fail
  refine (prsmall_long _ _ H1.out.1 H1.out.2).mono ?_; rintro e w' ⟨rfl, rfl⟩
  go_wp2_with fail
  go_ret2
  exact ⟨rfl, Below.refl _ _⟩
theorem prFactors_zero (s : ByteArray) (w : World) (hv : IsN s (nv s)) (h8 : s.size ≤ 8) (h0 : nv s = 0) :
    Calls Tryd.prog 24 #[.string s] w fun e w' => e = .returned (.tuple #[.slice none 0 0, .int .i64 11]) ∧ Below w.heap.size w w' := by
  have H1 := Lib.hid (And.intro hv h8)
  have H0 := Lib.hid h0
  clear hv h8 h0
  go_enter Tryd.func24, Tryd.ntmps24
  go_wp2_with fail
  refine (prsmall_ok _ _ H1.out.1 H1.out.2).mono ?_; rintro e w' ⟨rfl, rfl⟩
  rw [H0.out]
  go_wp2_with fail
  go_ret2
  exact ⟨rfl, Below.refl _ _⟩
theorem prFactors_big (s : ByteArray) (w : World) (hv : IsN s (nv s)) (h8 : s.size ≤ 8) (hb : 1099511627776 ≤ nv s) :
    Calls Tryd.prog 24 #[.string s] w fun e w' => e = .returned (.tuple #[.slice none 0 0, .int .i64 5]) ∧ Below w.heap.size w w' := by
  have H1 := Lib.hid (And.intro hv h8)
  obtain ⟨n, hn⟩ : ∃ n, nv s = n := ⟨_, rfl⟩
  rw [hn] at hb
  have HN := Lib.hid hn
  have t1 : ((n : Int) == 0) = false := by rw [beq_eq_false_iff_ne]; omega
  have t2 : decide (1099511627776 ≤ n) = true := decide_eq_true hb
  have t3 : decide ((1099511627776 : Int) ≤ (n : Int)) = true := by rw [decide_eq_true_eq]; omega
  clear hv h8 hn hb
  go_enter Tryd.func24, Tryd.ntmps24
  go_wp2_with fail
  refine (prsmall_ok _ _ H1.out.1 H1.out.2).mono ?_; rintro e w' ⟨rfl, rfl⟩
  rw [HN.out]
  go_wp2_with fail
  go_ret2
  exact ⟨rfl, Below.refl _ _⟩
theorem stepIn_append_own {F : Fence} {N : Nat} {P : Program} {ops : Array Oper} {o : Oper} {a : Act} {w : World} {K : Act → World → Prop} {Q : Exit → Act → World → Prop} {E : Prop}
    (hg : o.guard = none) (s x : Operand) (t : TypeId) (hop : o.op = Op.call { callee := Callee.builtin Builtin.append, args := #[s, x], argTypes := #[t, t] })
    (base : Nat) (e : TypeId) (i : TypeInfo) (z : Value) (size bytes : Nat) (h1 : P.underlying t = some (.slice e)) (h2 : P.info? e = some i) (h3 : i.zero = some z) (h4 : i.size = size) (h5 : i.bytes = bytes) (h6 : z.cells.size = size) (h7 : 0 < size)
    (v : Value) (n : Nat) (xs : List Value) (hs : a.eval s = v) (hown : w.ownsRow base e size v n xs)
    (ad : Addr) (m c : Nat) (news : List Value) (hx : a.eval x = .slice (some ad) m c) (hn : news.length = m * size) (hc : ∀ j u, news[j]? = some u → w.cell? (ad.add j) = some u) (h1c : ∀ u ∈ news, u.oneCell' = true)
    (b1 : n + m ≤ maxLen) (b2 : (n + m) * bytes ≤ 140737488355328) (hbase : base ≤ w.heap.size)
    (hK : ∀ v' w', w'.ownsRow base e size v' (n + m) (xs ++ news) → w.grownBy w' v.ownBlock → K (a.put o.dst v') w') :
    if Region.wanted o (yielded ops a.tmps) = true then Oper.wpIn F N P o a w K Q else E := by
  have hw : Region.wanted o (yielded ops a.tmps) = true := by simp [Region.wanted, hg]
  rw [if_pos hw]
  obtain ⟨v', w', hrun, r1, r2, _⟩ := run_append_own (P := P) w base t o.type e i z size bytes h1 h2 h3 h4 h5 h6 h7 v n xs hown ad m c news hn hc h1c b1 b2 hbase
  unfold Oper.wpIn
  refine ⟨?_, ?_⟩
  · intro f hf
    simp [Oper.about, hop, resolve, Target.leads] at hf
  · rw [Oper.semAt_eq _ _ _ (by intro c; rw [hop]; simp)]
    simp [execOp, hop, resolve, invoke, builtin, hs, hx, hrun, Oper.uponIn]
    exact hK v' w' r1 r2
theorem own_below {w w' : World} {B e size n : Nat} {v : Value} {xs : List Value} (hb : Below w.heap.size w.drew w') (h : w.ownsRow B e size v n xs) : w'.ownsRow B e size v n xs := by
  rcases h with ⟨h0, h | ⟨g, cap, cur, h1, h2, h3, h4⟩⟩
  · exact ⟨h0, .inl h⟩
  · exact ⟨h0, .inr ⟨g, cap, cur, h1, h2, (hb.block g (Array.getElem?_eq_some_iff.1 h3).1).trans h3, h4⟩⟩
theorem one_cell {W : World} {g : Nat} {v : Value} (h : W.cell? ⟨g, 0, none⟩ = some v) : ∀ j u, [v][j]? = some u → W.cell? ((⟨g, 0, none⟩ : Addr).add j) = some u := by
  intro j u hj
  cases j with
  | zero => simp at hj; subst hj; exact h
  | succ j => simp at hj
theorem tl_end {w W W2 w' : World} {l : List Nat} {x : Nat} {v0 v u : Value} {o : Obj} (h2 : W.ownsRow w.heap.size 27 1 v0 l.length (l.map fun p => Value.string (enc p))) (h3 : Boxed W (w.heap.size + 1) 23 u)
    (hB : Below w.heap.size w W) (hb3 : Below W.drew.heap.size W.drew W2) (hgrow : (W2.alloc o).grownBy w' v0.ownBlock)
    (j3 : Boxed (w'.setCell ⟨w.heap.size, 0, none⟩ v) w.heap.size 55 v)
    (j4 : (w'.setCell ⟨w.heap.size, 0, none⟩ v).ownsRow w.heap.size 27 1 v (l.length + 1) (l.map (fun p => Value.string (enc p)) ++ [.string (enc x)]))
    (j5 : KeepsOthers W2 (w'.setCell ⟨w.heap.size, 0, none⟩ v)) (j6 : Below w.heap.size W2 (w'.setCell ⟨w.heap.size, 0, none⟩ v)) {a : Act} :
    ownPostK (Holds0 (w.heap.size + 1)) (fun pre W => ((∃ v, Boxed W w.heap.size 55 v ∧ W.ownsRow w.heap.size 27 1 v pre.length (pre.map fun p => Value.string (enc p)) ∧ True) ∧ (∃ u, Boxed W (w.heap.size + 1) 23 u)) ∧ Below w.heap.size w W)
      (fun _ _ _ => False) (l ++ [x]) W .normal a (w'.setCell ⟨w.heap.size, 0, none⟩ v) := by
  have hs3 : W.heap.size ≤ W2.heap.size := hb3.size
  have hlt := h3.lt
  have hH : (w'.setCell ⟨w.heap.size, 0, none⟩ v).heap[w.heap.size + 1]? = W.heap[w.heap.size + 1]? := by
    rw [Below.heap_setCell _ _ _ _ (by simp), hgrow.block _ (by simp; omega) (h3.not_row (by decide) h2), Below.heap_alloc _ _ _ (by omega), hb3.block _ h3.lt]
    rfl
  refine ⟨((KeepsOthers.drew W).trans ⟨hb3.size, fun k o hk _ => (hb3.block k (Array.getElem?_eq_some_iff.1 hk).1).trans hk⟩).trans j5, hH, ⟨⟨_, j3, ?_, trivial⟩, ⟨u, hH.trans h3⟩⟩, (hB.drew.trans (hb3.mono hB.size)).trans j6⟩
  rw [List.map_append, List.length_append]
  exact j4
theorem info_natS : (Tryd.prog.info? 27).map (fun i => (i.zero, i.size, i.bytes)) = some (some (.string ⟨#[]⟩), 1, 16) := by kernel_rfl
set_option maxRecDepth 100000 in
set_option maxHeartbeats 4000000 in
theorem prFactors_ok (s : ByteArray) (l : List Nat) (w : World) (hv : IsN s (nv s)) (h8 : s.size ≤ 8) (h0 : 1 ≤ nv s) (hb : nv s < 1099511627776) (hF : Fac false (nv s) 2 l) :
    Calls Tryd.prog 24 #[.string s] w fun e w' => (∃ v, e = .returned (.tuple #[v, .int .i64 0]) ∧ SL w' v (l.map enc)) ∧ Below w.heap.size w w' := by
  have H1 := Lib.hid (And.intro hv h8)
  have hlen := hF.len h0 (by omega)
  obtain ⟨n, hn⟩ : ∃ n, nv s = n := ⟨_, rfl⟩
  rw [hn] at hb h0 hF hlen
  have HN := Lib.hid hn
  have HF := Lib.hid hF
  have hl40 : l.length ≤ 40 := by
    rcases Nat.lt_or_ge 40 l.length with h | h
    · have h1 : 2 ^ 41 ≤ 2 ^ l.length := Nat.pow_le_pow_right (by omega) h
      omega
    · exact h
  have t1 : ((n : Int) == 0) = false := by rw [beq_eq_false_iff_ne]; omega
  have t2 : decide (1099511627776 ≤ n) = false := decide_eq_false (by omega)
  have t3 : decide ((1099511627776 : Int) ≤ (n : Int)) = false := by rw [decide_eq_false_iff_not]; omega
  have HB := Lib.hid hb
  clear hv h8 hn hb hF hlen
  refine (callsIn_wide (n := 10)).1 ?_
  refine callsIn_of_wp_marks Tryd.func24 rfl trivial ?_ rfl
  simp only [Tryd.ntmps24, List.size_toArray, List.length_cons, List.length_nil, Nat.reduceAdd, Nat.reduceSub, Array.replicate_succ, Array.replicate_zero, List.push_toArray, List.append_toArray, List.nil_append, List.cons_append]
  gi_wp2
  refine ⟨trivial, ?_⟩
  refine (callsIn_wide.2 (prsmall_ok s _ H1.out.1 H1.out.2)).mono ?_
  rintro r w' ⟨rfl, rfl⟩
  rw [HN.out]
  gi_wp2
  have hx1 : Boxed (w.alloc (.cells #[.slice none 0 0] 55)) w.heap.size 55 (.slice none 0 0) := Boxed.new w _ _
  have hb1 : Below w.heap.size w (w.alloc (.cells #[.slice none 0 0] 55)) := (Below.refl _ w).alloc (Nat.le_refl _) _
  have hs1 : (w.alloc (.cells #[.slice none 0 0] 55)).heap.size = w.heap.size + 1 := by simp
  generalize w.alloc _ = w1 at hx1 hb1 hs1 ⊢
  refine ⟨trivial, ?_⟩
  refine (callsIn_wide.2 (factors_any n _)).mono ?_
  rintro r w2 ⟨rfl, rfl⟩
  rw [hs1]
  have hx2 := hx1.alloc (.cells #[.int .u64 (n : Int)] 23)
  have hu2 := Ux.new w1 n
  have hb2 := hb1.alloc hb1.size (.cells #[.int .u64 (n : Int)] 23)
  rw [hs1] at hu2
  have hs2 : (w1.alloc (.cells #[.int .u64 (n : Int)] 23)).heap.size = w.heap.size + 1 + 1 := by rw [World.size_alloc, hs1]
  generalize w1.alloc _ = w2 at hx2 hu2 hb2 hs2 ⊢
  clear hx1 hb1 hs1
  gi_wp2
  refine rng_c (by omega) (gf := 73) (lb := #[.pointer (some ⟨w.heap.size + 1, 0, none⟩)]) rfl (enters_of Tryd.func73 (by kernel_rfl) rfl) (B := w.heap.size + 1) (xs := l) hu2.lt ⟨_, _, hu2⟩
    (fac_seq (10 - 1) (by omega) (w.heap.size + 1) n l HF.out h0 HB.out w2 hu2)
    (fun pre W => ((∃ v, Boxed W w.heap.size 55 v ∧ W.ownsRow w.heap.size 27 1 v pre.length (pre.map fun p => Value.string (enc p)) ∧ True) ∧ (∃ u, Boxed W (w.heap.size + 1) 23 u)) ∧ Below w.heap.size w W)
    ?hI ?hIs ⟨⟨⟨_, hx2, World.ownsRow_nil _ _ _ _, trivial⟩, ⟨_, hu2⟩⟩, hb2⟩
    (fun x => { tmps := #[.string s, undef, .slice none 0 0, .int .i64 0, .int .u64 (n : Int), .int .i64 0, .pointer (some ⟨w.heap.size, 0, none⟩), .int .u64 (x : Int), .tuple #[.int .u64 (n : Int), .int .i64 0], .string s,
      .tuple #[.int .u64 (n : Int), .int .i64 0], .int .u64 (n : Int), .int .i64 0, .bool false, .int .i64 0, .bool false, undef, .bool false, .int .u64 (n : Int), .bool false, .bool false, .int .u64 (n : Int), .bool false,
      .int .u64 (n : Int), .func (.func 73) #[] #[.pointer (some ⟨w.heap.size + 1, 0, none⟩)], .int .u64 (x : Int), undef, undef, undef, undef, undef, undef], defers := [] }) ?assign ?body ?done
  case hI => exact OwnFrom.and (OwnFrom.and (Own.from (holdsRow_own w.heap.size w.heap.size 55 27 1 (fun pre : List Nat => pre.length) (fun pre => pre.map fun p => Value.string (enc p)) (fun _ _ => True)) _)
    (Own.from (fun s X Y row ⟨u, hu⟩ hg hr => ⟨u, hu.kept hg (fun e' => by obtain ⟨o, ho, hc⟩ := hr _ e'.symm; rw [show X.heap[_]? = _ from hu] at ho; cases ho; cases hc)⟩) _)) (ownFrom_below (Nat.le_refl _) hb2.size)
  case hIs =>
    rintro pre W v ⟨⟨⟨v0, h1, h2, _⟩, ⟨u, h3⟩⟩, hB⟩
    exact ⟨⟨⟨v0, h1.kept (grownBy_setCell' W _ v) (by simp), h2.kept (grownBy_setCell' W _ v) (.inr (h3.not_row (by decide) h2).symm), trivial⟩, ⟨v, h3.set v⟩⟩, hB.setCell (p := ⟨w.heap.size + 1, 0, none⟩) (by simp) v⟩
  case assign =>
    intro l x W K hK
    gi_wp2
    exact hK
  case body =>
    rintro l0 pre x W hpx ⟨⟨⟨v0, h1, h2, _⟩, ⟨u, h3⟩⟩, hB⟩
    have c1 := h1.cell
    have hxn : x < 18446744073709551616 := by
      have hm : x ∈ l := hpx.subset (by simp)
      have := HF.out.mem_le h0 (by omega) x hm
      have := HB.out
      omega
    have HXN := Lib.hid hxn
    clear hxn
    have hpl : pre.length ≤ 39 := by
      have := hpx.length_le
      simp at this
      omega
    obtain ⟨i0, hi, hz0, hz1, hz2⟩ := info_parts info_natS
    have hmx : Tryd.prog.follows .mixedOrders = true := by kernel_rfl
    have hn8 : 1 ≤ 8 := by omega
    gi_wp2
    refine wpIn_region_any hmx ?_
    change wpAnyIn _ _ _ _ _ _ _ _ _ (World.drew _)
    refine wpAnyIn_ready (rs := [0, 1]) (by kernel_rfl) (by simp) ?_
    refine AllReadyIn.cons rfl (fun K hK => ?_) ?_
    · go_simp
      refine hK _ _ ?_
      clear hK K
      refine wpAnyIn_ready (rs := [1]) (by kernel_rfl) (by simp) ?_
      refine AllReadyIn.cons rfl (fun K hK => ?_) ?_
      · go_simp
        refine hK _ _ ?_
        clear hK K
        refine wpAnyIn_ready (rs := [2]) (by kernel_rfl) (by simp) ?_
        refine AllReadyIn.cons rfl (fun K hK => ?_) ?_
        · go_simp
          refine ⟨trivial, ?_⟩
          gi_at_call 46
          refine (CallsIn.inRound l0 (callsIn_wide.2 (Of_any x W.drew HXN.out))).mono ?_
          rintro r W2 ⟨rfl, hb3⟩
          have j1 : Boxed W2 w.heap.size 55 v0 := (hb3.block _ h1.lt).trans h1
          have c2 := j1.cell
          gi_wp2
          refine wpAnyIn_ready (rs := [3]) (by kernel_rfl) (by simp) ?_
          refine AllReadyIn.cons rfl (fun K hK => ?_) ?_
          · go_simp
            refine hK _ _ ?_
            clear hK K
            refine wpAnyIn_ready (rs := [4]) (by kernel_rfl) (by simp) ?_
            refine AllReadyIn.cons rfl (fun K hK => ?_) ?_
            · refine stepIn_append_own rfl (.tmp 26) (.tmp 29) 55 rfl w.heap.size 27 i0 (.string ⟨#[]⟩) 1 16 Tryd.underlying55 hi hz0 hz1 hz2 rfl (by decide) v0 pre.length _ rfl ((own_below hb3 h2).alloc _) ⟨W2.heap.size, 0, none⟩ 1 1 [.string (enc x)] rfl rfl (one_cell (new_cell0 _ _ _ _)) (by simp [Value.oneCell']) (by unfold maxLen; omega) (by omega) (by simp; have := hB.size; have := hb3.size; simp at this; omega) ?_
              intro v' w' hown' hgrow
              obtain ⟨j2, j3, j4, j5, j6⟩ := Boxed.appended j1 (by decide) (own_below hb3 h2) (by have := hB.size; have := hb3.size; simp at this; omega) (Nat.le_refl _) hown' hgrow
              have c4 := j2.cell
              have f4 := j2.frozen
              obtain ⟨g, cap, rfl⟩ := ownsRow_succ hown'
              refine hK _ _ ?_
              clear hK K
              refine wpAnyIn_ready (rs := [5]) (by kernel_rfl) (by simp) ?_
              refine AllReadyIn.cons rfl (fun K hK => ?_) ?_
              · go_simp
                refine hK _ _ ?_
                clear hK K
                refine wpAnyIn_done (by kernel_rfl) ?_ _
                gi_wp2
                exact tl_end h2 h3 hB hb3 hgrow j3 j4 j5 j6
              · exact AllReadyIn.nil
            · exact AllReadyIn.nil
          · exact AllReadyIn.nil
        · exact AllReadyIn.nil
      · exact AllReadyIn.nil
    · refine AllReadyIn.cons rfl (fun K hK => ?_) ?_
      · go_simp
        refine hK _ _ ?_
        clear hK K
        refine wpAnyIn_ready (rs := [0, 2]) (by kernel_rfl) (by simp) ?_
        refine AllReadyIn.cons rfl (fun K hK => ?_) ?_
        · go_simp
          refine hK _ _ ?_
          clear hK K
          refine wpAnyIn_ready (rs := [2]) (by kernel_rfl) (by simp) ?_
          refine AllReadyIn.cons rfl (fun K hK => ?_) ?_
          · go_simp
            refine ⟨trivial, ?_⟩
            gi_at_call 46
            refine (CallsIn.inRound l0 (callsIn_wide.2 (Of_any x W.drew HXN.out))).mono ?_
            rintro r W2 ⟨rfl, hb3⟩
            have j1 : Boxed W2 w.heap.size 55 v0 := (hb3.block _ h1.lt).trans h1
            have c2 := j1.cell
            gi_wp2
            refine wpAnyIn_ready (rs := [3]) (by kernel_rfl) (by simp) ?_
            refine AllReadyIn.cons rfl (fun K hK => ?_) ?_
            · go_simp
              refine hK _ _ ?_
              clear hK K
              refine wpAnyIn_ready (rs := [4]) (by kernel_rfl) (by simp) ?_
              refine AllReadyIn.cons rfl (fun K hK => ?_) ?_
              · refine stepIn_append_own rfl (.tmp 26) (.tmp 29) 55 rfl w.heap.size 27 i0 (.string ⟨#[]⟩) 1 16 Tryd.underlying55 hi hz0 hz1 hz2 rfl (by decide) v0 pre.length _ rfl ((own_below hb3 h2).alloc _) ⟨W2.heap.size, 0, none⟩ 1 1 [.string (enc x)] rfl rfl (one_cell (new_cell0 _ _ _ _)) (by simp [Value.oneCell']) (by unfold maxLen; omega) (by omega) (by simp; have := hB.size; have := hb3.size; simp at this; omega) ?_
                intro v' w' hown' hgrow
                obtain ⟨j2, j3, j4, j5, j6⟩ := Boxed.appended j1 (by decide) (own_below hb3 h2) (by have := hB.size; have := hb3.size; simp at this; omega) (Nat.le_refl _) hown' hgrow
                have c4 := j2.cell
                have f4 := j2.frozen
                obtain ⟨g, cap, rfl⟩ := ownsRow_succ hown'
                refine hK _ _ ?_
                clear hK K
                refine wpAnyIn_ready (rs := [5]) (by kernel_rfl) (by simp) ?_
                refine AllReadyIn.cons rfl (fun K hK => ?_) ?_
                · go_simp
                  refine hK _ _ ?_
                  clear hK K
                  refine wpAnyIn_done (by kernel_rfl) ?_ _
                  gi_wp2
                  exact tl_end h2 h3 hB hb3 hgrow j3 j4 j5 j6
                · exact AllReadyIn.nil
              · exact AllReadyIn.nil
            · exact AllReadyIn.nil
          · exact AllReadyIn.nil
        · refine AllReadyIn.cons rfl (fun K hK => ?_) ?_
          · go_simp
            refine ⟨trivial, ?_⟩
            gi_at_call 46
            refine (CallsIn.inRound l0 (callsIn_wide.2 (Of_any x W.drew HXN.out))).mono ?_
            rintro r W2 ⟨rfl, hb3⟩
            have j1 : Boxed W2 w.heap.size 55 v0 := (hb3.block _ h1.lt).trans h1
            have c2 := j1.cell
            gi_wp2
            refine wpAnyIn_ready (rs := [0, 3]) (by kernel_rfl) (by simp) ?_
            refine AllReadyIn.cons rfl (fun K hK => ?_) ?_
            · go_simp
              refine hK _ _ ?_
              clear hK K
              refine wpAnyIn_ready (rs := [3]) (by kernel_rfl) (by simp) ?_
              refine AllReadyIn.cons rfl (fun K hK => ?_) ?_
              · go_simp
                refine hK _ _ ?_
                clear hK K
                refine wpAnyIn_ready (rs := [4]) (by kernel_rfl) (by simp) ?_
                refine AllReadyIn.cons rfl (fun K hK => ?_) ?_
                · refine stepIn_append_own rfl (.tmp 26) (.tmp 29) 55 rfl w.heap.size 27 i0 (.string ⟨#[]⟩) 1 16 Tryd.underlying55 hi hz0 hz1 hz2 rfl (by decide) v0 pre.length _ rfl ((own_below hb3 h2).alloc _) ⟨W2.heap.size, 0, none⟩ 1 1 [.string (enc x)] rfl rfl (one_cell (new_cell0 _ _ _ _)) (by simp [Value.oneCell']) (by unfold maxLen; omega) (by omega) (by simp; have := hB.size; have := hb3.size; simp at this; omega) ?_
                  intro v' w' hown' hgrow
                  obtain ⟨j2, j3, j4, j5, j6⟩ := Boxed.appended j1 (by decide) (own_below hb3 h2) (by have := hB.size; have := hb3.size; simp at this; omega) (Nat.le_refl _) hown' hgrow
                  have c4 := j2.cell
                  have f4 := j2.frozen
                  obtain ⟨g, cap, rfl⟩ := ownsRow_succ hown'
                  refine hK _ _ ?_
                  clear hK K
                  refine wpAnyIn_ready (rs := [5]) (by kernel_rfl) (by simp) ?_
                  refine AllReadyIn.cons rfl (fun K hK => ?_) ?_
                  · go_simp
                    refine hK _ _ ?_
                    clear hK K
                    refine wpAnyIn_done (by kernel_rfl) ?_ _
                    gi_wp2
                    exact tl_end h2 h3 hB hb3 hgrow j3 j4 j5 j6
                  · exact AllReadyIn.nil
                · exact AllReadyIn.nil
              · exact AllReadyIn.nil
            · refine AllReadyIn.cons rfl (fun K hK => ?_) ?_
              · go_simp
                refine hK _ _ ?_
                clear hK K
                have c3 := (j1.alloc (.cells #[.string (enc x)] 27)).cell
                refine wpAnyIn_ready (rs := [0]) (by kernel_rfl) (by simp) ?_
                refine AllReadyIn.cons rfl (fun K hK => ?_) ?_
                · go_simp
                  refine hK _ _ ?_
                  clear hK K
                  refine wpAnyIn_ready (rs := [4]) (by kernel_rfl) (by simp) ?_
                  refine AllReadyIn.cons rfl (fun K hK => ?_) ?_
                  · refine stepIn_append_own rfl (.tmp 26) (.tmp 29) 55 rfl w.heap.size 27 i0 (.string ⟨#[]⟩) 1 16 Tryd.underlying55 hi hz0 hz1 hz2 rfl (by decide) v0 pre.length _ rfl ((own_below hb3 h2).alloc _) ⟨W2.heap.size, 0, none⟩ 1 1 [.string (enc x)] rfl rfl (one_cell (new_cell0 _ _ _ _)) (by simp [Value.oneCell']) (by unfold maxLen; omega) (by omega) (by simp; have := hB.size; have := hb3.size; simp at this; omega) ?_
                    intro v' w' hown' hgrow
                    obtain ⟨j2, j3, j4, j5, j6⟩ := Boxed.appended j1 (by decide) (own_below hb3 h2) (by have := hB.size; have := hb3.size; simp at this; omega) (Nat.le_refl _) hown' hgrow
                    have c4 := j2.cell
                    have f4 := j2.frozen
                    obtain ⟨g, cap, rfl⟩ := ownsRow_succ hown'
                    refine hK _ _ ?_
                    clear hK K
                    refine wpAnyIn_ready (rs := [5]) (by kernel_rfl) (by simp) ?_
                    refine AllReadyIn.cons rfl (fun K hK => ?_) ?_
                    · go_simp
                      refine hK _ _ ?_
                      clear hK K
                      refine wpAnyIn_done (by kernel_rfl) ?_ _
                      gi_wp2
                      exact tl_end h2 h3 hB hb3 hgrow j3 j4 j5 j6
                    · exact AllReadyIn.nil
                  · exact AllReadyIn.nil
                · exact AllReadyIn.nil
              · exact AllReadyIn.nil
          · exact AllReadyIn.nil
      · exact AllReadyIn.nil
  case done =>
    rintro D W hD ⟨⟨⟨v0, h1, h2, _⟩, _⟩, hB⟩ hK
    have c1 := h1.cell
    gi_wp2
    refine ⟨by simp, .inl ⟨_, _, rfl, run_takeDeferred hK, ?_⟩⟩
    refine ⟨_, results_tmp2 rfl _ _ _, ⟨_, rfl, SL.of_own (B := w.heap.size) ?_⟩, hB.trans (belowK_b (w := w) (Nat.le_refl _) W D _ _ (by have := hb2.size; omega) hK rfl rfl)⟩
    have := ownsRow_putObj h2 (.deferred none) hK rfl
    rw [List.length_map, List.map_map]
    exact this
end Go.Proofs.YtjminjliomffaaaDoor

/- The reference's trial division: dominoref04.FactorsU, Factors. -/
namespace Go.Proofs.YtjminjliomffaaaDoor
open Go.RowKit Go.Shelf Num
set_option maxRecDepth 20000
set_option linter.unusedVariables false
theorem Below.drewN (B : Nat) (w : World) (n : Nat) : Below B w (w.drewN n) := ⟨rfl, rfl, rfl, Nat.le_refl _, fun _ _ => rfl⟩
theorem SL.form {W : World} {v : Value} {L : List ByteArray} (h : SL W v L) : ∃ a c, v = .slice a L.length c ∧ Hid (∀ k (hk : k < L.length), ∃ b, a = some ⟨b, 0, none⟩ ∧ b < W.heap.size ∧ W.cell? ⟨b, k, none⟩ = some (.string L[k])) := by
  rcases h with ⟨rfl, rfl⟩ | ⟨b, c, rfl, h2, h3, h4⟩
  · exact ⟨none, 0, rfl, fun k hk => by simp at hk⟩
  · exact ⟨_, c, rfl, fun k hk => ⟨b, rfl, h3, h4 k hk⟩⟩
set_option maxHeartbeats 1000000 in
theorem eqN_same (u v : Value) (L : List ByteArray) (w : World) (hu : SL w u L) (hv : SL w v L) (hL : L.length ≤ 1000000) :
    Calls Tryd.prog 25 #[u, v] w fun e w' => e = .returned (.bool true) ∧ Below w.heap.size w w' := by
  obtain ⟨a1, c1, rfl, H1⟩ := hu.form
  obtain ⟨a2, c2, rfl, H2⟩ := hv.form
  obtain ⟨n, hn⟩ : ∃ n, L.length = n := ⟨_, rfl⟩
  simp only [hn] at H1 H2 ⊢
  rw [hn] at hL
  clear hu hv
  go_enter Tryd.func25, Tryd.ntmps25
  go_wp2_with fail
  go_loopw [13] (fun i wr => ∃ k : Nat, k ≤ n ∧ i = .int .i64 k ∧ Below w.heap.size w wr) (fun i _ => n - (intOf i).toNat)
  case atStart => exact ⟨0, by omega, rfl, Below.refl _ _⟩
  case round =>
    obtain ⟨k, hk, rfl, hB⟩ := hrel
    by_cases hlt : k < n
    · obtain ⟨b1, rfl, hb1, hc1⟩ := H1.out k hlt
      obtain ⟨b2, rfl, hb2, hc2⟩ := H2.out k hlt
      have d1 := (hB.cell (p := ⟨b1, k, none⟩) hb1).trans hc1
      have d2 := (hB.cell (p := ⟨b2, k, none⟩) hb2).trans hc2
      generalize L[k] = x at d1 d2
      clear hc1 hc2 hb1 hb2
      go_wp2_with fail
      go_quiet (fail)
      go_wp2_with fail
      exact ⟨⟨k + 1, by omega, by go_num, hB.trans (Below.drewN _ _ _)⟩, by simp [intOf]; omega⟩
    · obtain rfl : k = n := by omega
      go_wp2_with fail
      go_ret
      exact ⟨rfl, hB⟩
end Go.Proofs.YtjminjliomffaaaDoor
