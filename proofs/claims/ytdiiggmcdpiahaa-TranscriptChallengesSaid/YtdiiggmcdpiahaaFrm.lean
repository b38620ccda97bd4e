/- transcript.framed: the hash of a frame. -/
import Derived.Test.YtdiiggmcdpiahaaBld
import Derived.Test.YtdiiggmcdpiahaaShaV
import Derived.ArgAppend
import Derived.Deep.RegionLawGrows
import Derived.Shelf.Abstract
namespace Go.Proofs.Ytdiiggmcdpiahaa
open Go.RowKit Num
open Go.Lib (byteCells byteCells_length byteCells_append)
set_option maxRecDepth 20000

/-- a slice of strings -/
def Strs (w : World) (v : Value) (L : List (List UInt8)) : Prop :=
  (L = [] ∧ v = .slice none 0 0) ∨ ∃ g c cur fr, v = .slice (some ⟨g, 0, none⟩) L.length c ∧ L.length ≤ c ∧ w.heap[g]? = some (.cells cur 9 fr) ∧ ∀ j (h : j < L.length), cur[j]? = some (.string (str L[j]))
theorem Strs.below {w w' : World} {v : Value} {L : List (List UInt8)} {B : Nat} (h : Strs w v L) (hb : Below B w w') (hB : w.heap.size ≤ B) : Strs w' v L := by
  rcases h with h | ⟨g, c, cur, fr, h1, h2, h3, h4⟩
  · exact .inl h
  · exact .inr ⟨g, c, cur, fr, h1, h2, by rw [hb.block g (Nat.lt_of_lt_of_le (Array.getElem?_eq_some_iff.1 h3).1 hB)]; exact h3, h4⟩
theorem Strs.nil (w : World) : Strs w (.slice none 0 0) [] := .inl ⟨rfl, rfl⟩
/-- the frame of a kind and strings -/
def flat (L : List (List UInt8)) : List UInt8 := L.flatMap fun s => bytesL 8 s.length ++ s
def frm (c : UInt8) (L : List (List UInt8)) : List UInt8 := c :: (bytesL 8 L.length ++ flat L)
theorem flat_nil : flat [] = [] := rfl
theorem flat_append (L M : List (List UInt8)) : flat (L ++ M) = flat L ++ flat M := by simp [flat]
theorem flat_one (s : List UInt8) : flat [s] = bytesL 8 s.length ++ s := by simp [flat]
theorem flat_take (L : List (List UInt8)) (k : Nat) (h : k < L.length) : flat (L.take (k + 1)) = flat (L.take k) ++ (bytesL 8 L[k].length ++ L[k]) := by
  rw [List.take_succ_eq_append_getElem h, flat_append, flat_one]
theorem length_flat_take (L : List (List UInt8)) (k : Nat) : (flat (L.take k)).length ≤ (flat L).length := by
  conv => rhs; rw [← List.take_append_drop k L, flat_append, List.length_append]
  omega
theorem length_flat_get (L : List (List UInt8)) (k : Nat) (h : k < L.length) : 8 + L[k].length ≤ (flat L).length := by
  have := length_flat_take L (k + 1)
  rw [flat_take L k h] at this
  simp [length_bytesL] at this
  omega
theorem length_flat_len (L : List (List UInt8)) : L.length ≤ (flat L).length := by
  induction L with
  | nil => simp
  | cons s L ih =>
    rw [show s :: L = [s] ++ L from rfl, flat_append, flat_one]
    simp [length_bytesL]; omega
theorem length_frm (c : UInt8) (L : List (List UInt8)) : (frm c L).length = 9 + (flat L).length := by simp [frm, length_bytesL]; omega
theorem info_string : (Try.prog.info? 9).map (fun i => (i.zero, i.size, i.bytes)) = some (some (.string ⟨#[]⟩), 1, 16) := by kernel_rfl

/-- the strings that are handed over: each a string in its cell -/
def MoreS (w : World) (ao : Option Addr) (L : List (List UInt8)) : Prop := ∀ k (h : k < L.length), ∃ b off, ao = some ⟨b, off, none⟩ ∧ w.cell? ⟨b, off + k, none⟩ = some (.string (str L[k]))
theorem MoreS.below {w w' : World} {ao : Option Addr} {L : List (List UInt8)} {B : Nat} (h : MoreS w ao L) (hb : Below B w w') (hB : w.heap.size ≤ B) : MoreS w' ao L := by
  intro k hk
  obtain ⟨b, off, h1, h2⟩ := h k hk
  refine ⟨b, off, h1, ?_⟩
  have hlt : b < w.heap.size := by
    unfold World.cell? at h2
    rcases Nat.lt_or_ge b w.heap.size with h' | h'
    · exact h'
    · simp [Array.getElem?_eq_none h'] at h2
  rw [hb.cell (p := ⟨b, off + k, none⟩) (by show b < B; omega)]; exact h2
theorem Strs.more {w : World} {v : Value} {L : List (List UInt8)} (h : Strs w v L) : ∃ ao c, v = .slice ao L.length c ∧ MoreS w ao L := by
  rcases h with ⟨rfl, rfl⟩ | ⟨g, c, cur, fr, h1, h2, h3, h4⟩
  · exact ⟨none, 0, rfl, fun k hk => by simp at hk⟩
  · refine ⟨_, _, h1, fun k hk => ⟨g, 0, rfl, ?_⟩⟩
    rw [Nat.zero_add, Lib.cell_of_heap h3]; exact h4 k hk
def svals (L : List (List UInt8)) : List Value := L.map fun s => .string (str s)
theorem svals_one (L : List (List UInt8)) : ∀ v ∈ svals L, v.oneCell' = true := by
  intro v hv
  simp [svals] at hv
  obtain ⟨_, _, rfl⟩ := hv
  rfl
theorem Strs.of_owns {w : World} {B : Nat} {v : Value} {L : List (List UInt8)} (h : w.ownsRow B 9 1 v L.length (svals L)) : Strs w v L := by
  rcases h.2 with ⟨rfl, h0⟩ | ⟨g, cap, cur, rfl, _, h1, h2, _, _, h5⟩
  · exact .inl ⟨List.eq_nil_of_length_eq_zero h0, rfl⟩
  · refine .inr ⟨g, cap, cur, _, rfl, h2, h1, fun j hj => ?_⟩
    have : (svals L)[j]? = some (.string (str L[j])) := by simp [svals, hj]
    rw [← h5, List.getElem?_take, if_pos (by omega)] at this
    simpa using this
theorem svals_append (L M : List (List UInt8)) : svals (L ++ M) = svals L ++ svals M := by simp [svals]

theorem cell_old {w : World} {o : Obj} {a : Addr} {v : Value} (h : w.cell? a = some v) : (w.drew.alloc o).cell? a = some v := by
  have hlt : a.block < w.heap.size := by
    unfold World.cell? at h
    rcases Nat.lt_or_ge a.block w.heap.size with h' | h'
    · exact h'
    · simp [Array.getElem?_eq_none h'] at h
  rw [((Below.refl w.heap.size w.drew).alloc (Nat.le_refl _) o).cell hlt]
  exact h
theorem one_new (w : World) (s : List UInt8) (t : TypeId) : ∀ j u, (svals [s])[j]? = some u → (w.alloc (.cells #[.string (str s)] t)).cell? ((⟨w.heap.size, 0, none⟩ : Addr).add j) = some u := by
  intro j u hu
  cases j with
  | zero =>
    simp [svals] at hu
    subst hu
    rw [show (⟨w.heap.size, 0, none⟩ : Addr).add 0 = ⟨w.heap.size, 0, none⟩ from rfl, new_cell0]
    rfl
  | succ j => simp [svals] at hu
theorem Strs.open' {w : World} {v : Value} {L : List (List UInt8)} (h : Strs w v L) (n : Nat) (hn : L.length = n) :
    ∃ av cv, v = .slice av n cv ∧ (av = none → n = 0 ∧ cv = 0) ∧ n ≤ cv ∧ Hid (∀ q, av = some q → ∀ j u, (svals L)[j]? = some u → w.cell? (q.add j) = some u) := by
  subst hn
  rcases h with ⟨rfl, rfl⟩ | ⟨g, c, cur, fr, h1, h2, h3, h4⟩
  · exact ⟨none, 0, rfl, fun _ => ⟨rfl, rfl⟩, Nat.le_refl _, fun q h => by cases h⟩
  · refine ⟨_, _, h1, fun h => (by cases h), h2, fun q hq j u hu => ?_⟩
    injection hq with hq
    subst hq
    have hj : j < L.length := by
      have := (List.getElem?_eq_some_iff.1 hu).1
      simpa [svals] using this
    have he : (svals L)[j]? = some (.string (str L[j])) := by simp [svals, hj]
    rw [he] at hu
    injection hu with hu
    subst hu
    rw [show (⟨g, 0, none⟩ : Addr).add j = ⟨g, j, none⟩ from by unfold Addr.add; split <;> simp_all, Lib.cell_of_heap h3]
    exact h4 j hj
theorem step_callf {P : Program} {ops : Array Oper} {o : Oper} {a : Act} {w : World} {K : Act → World → Prop} {Q : Exit → Act → World → Prop} {E : Prop}
    (hg : o.guard = none) (c : Operand) (xs : Array Operand) (ts : Array TypeId) (hop : o.op = Op.call { callee := .value c, args := xs, argTypes := ts })
    (f : FuncId) (args : Array Value) (hc : a.eval c = .func (.func f) #[] #[]) (has : xs.map a.eval = args) (hen : ∀ args w, (callFunc f args).run P w = .ok (.enter f args) w)
    (R : Ending → World → Prop) (hcall : Calls P f args w R) (hK : ∀ e w', R e w' → ∃ v, e = .returned v ∧ K (a.put o.dst v) w') :
    if Region.wanted o (yielded ops a.tmps) = true then Oper.wp P o a w K Q else E := by
  rw [if_pos (by simp [Region.wanted, hg])]
  have hex : (execOp a.eval o).run P w = .ok (.enter f args) w := by
    simp [execOp, hop, resolve, hc, has, invoke, hen, Deferred.ofValue]
  unfold Oper.wp
  rw [hex]
  refine hcall.mono ?_
  intro e w' h
  obtain ⟨v, rfl, hk⟩ := hK e w' h
  exact hk
theorem plainText_any (s : ByteArray) (w : World) : Calls Try.prog 48 #[.string s] w fun e w' => e = .returned (.string s) ∧ w = w' := by
  go_enter Try.func48, Try.ntmps48
  go_wp2
  go_ret
  exact ⟨rfl, rfl⟩
theorem eight_int (b : Nat) (l : List UInt8) (x : Int) (n : Nat) (w : World) (hx : x = n) (h : Bld 54 w b l) (hlen : l.length ≤ 9000000) :
    Calls Try.prog 28 #[.pointer (some ⟨b, 0, none⟩), .int .i64 x] w fun e w' => e = .returned (.tuple #[]) ∧ Bld 54 w' b (l ++ bytesL 8 n) ∧ Below b w w' ∧ Oth b w w' := by
  rw [hx]; exact eight_any b l n w h hlen
set_option maxHeartbeats 8000000 in
theorem framedS_any (c : UInt8) (z : Int) (v0 : Value) (ao : Option Addr) (cm : Nat) (L0 L : List (List UInt8)) (w : World) (hz : (c.toNat : Int) = z) (h0 : Strs w v0 L0) (hm : MoreS w ao L) (hs : (flat (L0 ++ L)).length ≤ 800000) :
    Calls Try.prog 47 #[.int .u8 z, v0, .slice ao L.length cm, .func (.func 48) #[] #[]] w fun e w' => e = .returned (.string (sha (frm c (L0 ++ L)))) ∧ Below w.heap.size w w' := by
  obtain ⟨i0, hi, hy0, hy1, hy2⟩ := info_parts info_string
  have HZ := Lib.hid hz
  clear hz
  obtain ⟨a0, c0, rfl⟩ : ∃ ao cm, v0 = .slice ao L0.length cm := by
    rcases h0 with ⟨rfl, rfl⟩ | ⟨g, c, _, _, h, _⟩
    · exact ⟨none, 0, rfl⟩
    · exact ⟨_, _, h⟩
  have hLl := length_flat_len (L0 ++ L)
  rw [List.length_append] at hLl
  go_enter Try.func47, Try.ntmps47
  go_wp2_with fail
  refine (WriteByte_any _ bt_frame w.heap.size [] _ _ _ HZ.out (Bld.new _ w) (by simp)).mono ?_
  rintro e w1 ⟨rfl, hB1, hb1, _⟩
  rw [List.nil_append] at hB1
  have q1 := hB1.lt
  go_wp2_with fail
  refine (eight_int w.heap.size [c] _ (L0 ++ L).length _ (by rw [List.length_append]; omega) hB1 (by simp)).mono ?_
  rintro e w2 ⟨rfl, hB2, hb2, _⟩
  have q2 := hB2.lt
  have hbA := ((Below.refl w.heap.size w).alloc (Nat.le_refl _) _).trans (hb1.trans hb2)
  have hm2 := hm.below hbA (Nat.le_refl _)
  have h02 := h0.below hbA (Nat.le_refl _)
  clear hb1 hb2 hB1 h0 hm
  obtain ⟨hd, hhd⟩ : ∃ hd, [c] ++ bytesL 8 (L0 ++ L).length = hd := ⟨_, rfl⟩
  rw [hhd] at hB2
  have HD := Lib.hid hhd
  clear hhd
  have i1 : ((L0.length : Int) + L.length ≤ 800000) := by omega
  go_wp2_with fail
  go_loopw [1, 25] (fun v x wr => ∃ k : Nat, k ≤ L.length ∧ x = .int .i64 k ∧ Hid (Strs wr v (L0 ++ L.take k)) ∧ Bld 54 wr w.heap.size hd ∧ Below w2.heap.size w2 wr)
    (fun _ x _ => L.length - (intOf x).toNat)
  case atStart => exact ⟨0, by omega, rfl, by rw [List.take_zero, List.append_nil]; exact h02, hB2, Below.refl _ _⟩
  case round =>
    clear h02 hB2
    obtain ⟨k, hk, rfl, hS, hB, hb⟩ := hrel
    have hsz := hb.size
    by_cases hlt : k < L.length
    · obtain ⟨b, off, rfl, hc⟩ := (hm2.below hb (Nat.le_refl _)) k hlt
      obtain ⟨n, hn⟩ : ∃ n, (L0 ++ L.take k).length = n := ⟨_, rfl⟩
      have hnb : n ≤ 800000 := by rw [List.length_append, List.length_take] at hn; omega
      obtain ⟨av, cv, rfl, hnone, hcap, hcells⟩ := hS.out.open' n hn
      go_wp2_with fail
      have HC : Hid (∀ q, av = some q → ∀ j u, (svals (L0 ++ L.take k))[j]? = some u → (wr.drew.alloc (.cells #[.string (str L[k])] 9)).cell? (q.add j) = some u) := fun q hq j u hu => cell_old (hcells.out q hq j u hu)
      have HN : Hid ((svals (L0 ++ L.take k)).length = n * 1) := by show _ = _; rw [Nat.mul_one, ← hn]; simp [svals]
      have hnone' := Lib.hid (fun h => ⟨(hnone h).1, (hnone h).1⟩ : av = none → n = 0 ∧ n = 0)
      clear hnone hcells
      have HNN := Lib.hid hn
      clear hn
      go_region_law (first
        | ((with_reducible refine step_callf ?a1 (.tmp 35) #[.tmp 36] #[9] ?a2 48 #[.string (str L[k])] ?a3 ?a4 ?a5 ?a8 ?a6 ?a7); (case a1 => rfl); (case a2 => rfl); (case a3 => simp [Act.eval, Act.put]); (case a4 => simp [Act.eval, Act.put]); (case a5 => exact enters_of Try.func48 (by kernel_rfl) rfl); (case a6 => exact plainText_any (str L[k]) _); rintro e w' ⟨rfl, rfl⟩; refine ⟨_, rfl, ?_⟩)
        | ((with_reducible refine step_append_grows ?b1 (.tmp 34) (.tmp 38) 47 ?b2 9 i0 (.string ⟨#[]⟩) 1 16 Try.underlying47 hi hy0 hy1 hy2 ?b3 ?b4 av n n (svals (L0 ++ L.take k)) ?b5 hnone'.out HN.out ?b6 ⟨wr.heap.size, 0, none⟩ 1 1 (svals [L[k]]) ?b7 ?b8 ?b9 (svals_one _) ?c1 ?c2 ?c3 ?c4); (case b1 => rfl); (case b2 => rfl); (case b3 => rfl); (case b4 => decide); (case b5 => simp [Act.eval]); (case b6 => exact HC.out); (case b7 => simp [Act.eval]); (case b8 => rfl); (case b9 => exact one_new _ _ _); (case c1 => omega); (case c2 => unfold maxLen; omega); (case c3 => omega); intro v' w4 hO4 hG4))
      have hbG : Below wr.heap.size wr w4 := ((Below.refl wr.heap.size wr).drew.alloc (Nat.le_refl _) _).grown hG4 (by simp) (fun q e => by cases e)
      have hS4 : Strs w4 v' (L0 ++ L.take (k + 1)) := by
        rw [List.take_succ_eq_append_getElem hlt, ← List.append_assoc]
        refine Strs.of_owns (B := ?_) ?_
        rotate_left
        · rw [svals_append, List.length_append, HNN.out]
          exact hO4
      have hB4 := hB.below hbG (Nat.le_refl _)
      have hb4 := hb.trans (hbG.mono hsz)
      obtain ⟨av', cv', rfl⟩ : ∃ av cv, v' = .slice av (n + 1) cv := by
        rcases hO4.2 with ⟨_, h⟩ | ⟨g, cap, cur, hv, _⟩
        · omega
        · exact ⟨_, _, hv⟩
      clear hO4 hG4 HC HN hnone' hbG
      go_wp2_with fail
      exact ⟨⟨k + 1, by omega, by go_num, hS4, hB4, hb4⟩, by simp [intOf]; omega⟩
    · obtain rfl : k = L.length := by omega
      rw [List.take_of_length_le (Nat.le_refl _)] at hS
      clear hlt hk hm2
      obtain ⟨M, hM⟩ : ∃ M, L0 ++ L = M := ⟨_, rfl⟩
      rw [hM] at hS hs
      have HM := Lib.hid hM
      clear hM
      have hbW := hbA.trans (hb.mono (Nat.le_of_lt q2))
      obtain ⟨wo, rfl⟩ : ∃ wo : World, wo = wr := ⟨_, rfl⟩
      have hMl := length_flat_len M
      rcases hS.out with ⟨hM0, rfl⟩ | ⟨gl, cl, cur, fr, rfl, hcl, hblk, hcur⟩
      · have hfin : hd = frm c M := by rw [← HD.out, HM.out, hM0]; simp [frm, flat]
        rw [hfin] at hB
        have hne : frm c M ≠ [] := by simp [frm]
        have hszf := size_str (frm c M)
        have hfl := length_frm c M
        have HSZ : Hid ((str (frm c M)).size ≤ 900000) := by show _ ≤ _; omega
        clear hfin hM0 hszf hfl hS hMl
        go_wp2_with fail
        go_loopw [43] (fun x wr => x = .int .i64 0 ∧ wr = wo) (fun x _ => 0)
        case atStart => exact ⟨rfl, rfl⟩
        case round =>
          obtain ⟨rfl, rfl⟩ := hrel
          go_wp2_with fail
          refine (String_any _ _ _ _ hB hne).mono ?_
          rintro e w7 ⟨rfl, hb7⟩
          go_wp2_with fail
          refine (Sum_any (str (frm c M)) _ HSZ.out).mono ?_
          rw [data_str]
          rintro e w8 ⟨rfl, hb8⟩
          go_wp2_with fail
          go_ret
          exact ⟨ret_str (by rw [HM.out]), hbW.trans (hb7.trans (hb8.mono (by have := hb7.size; have := hbW.size; omega)))⟩
      · obtain ⟨n, hn⟩ : ∃ n, M.length = n := ⟨_, rfl⟩
        have hgb : gl ≠ w.heap.size := by
          rintro rfl
          rcases hB with ⟨_, h, _⟩ | ⟨_, h, _⟩ <;> (rw [hblk] at h; injection h with h; injection h with _ h; revert h; decide)
        have hbnd : n ≤ 800000 := by omega
        rw [hn]
        have HN := Lib.hid hn
        clear hn
        go_wp2_with fail
        go_loopw [43] (fun x wr => ∃ k : Nat, k ≤ n ∧ x = .int .i64 k ∧ Bld 54 wr w.heap.size (hd ++ flat (M.take k)) ∧ Below w.heap.size wo wr ∧ Oth w.heap.size wo wr)
          (fun x _ => n - (intOf x).toNat)
        case atStart => exact ⟨0, by omega, rfl, by simpa [flat] using hB, Below.refl _ _, Oth.refl _ _⟩
        case round =>
          clear hB
          obtain ⟨k, hk, rfl, hB, hb', ho'⟩ := hrel
          by_cases hlt : k < n
          · have hkM : k < M.length := by rw [HN.out]; exact hlt
            have hc : wr.cell? ⟨gl, k, none⟩ = some (.string (str M[k])) := by
              rw [Lib.cell_of_heap (ho' gl _ _ _ hgb (by decide) hblk)]; exact hcur k hkM
            have hsz := size_str M[k]
            have hfk := length_flat_take M k
            have hgk := length_flat_get M k hkM
            have hdl : hd.length = 9 := by rw [← HD.out]; simp [length_bytesL]
            go_wp2_with fail
            refine (eight_int w.heap.size _ _ M[k].length _ rfl hB (by rw [List.length_append]; omega)).mono ?_
            rintro e w5 ⟨rfl, hB5, hb5, ho5⟩
            go_wp2_with fail
            refine (WriteString_any _ bt_frame w.heap.size _ M[k] _ hB5 (by simp only [List.length_append, length_bytesL]; omega) (by omega)).mono ?_
            rintro e w6 ⟨rfl, hB6, hb6, ho6⟩
            go_wp2_with fail
            refine ⟨⟨k + 1, by omega, by go_num, ?_, hb'.trans (hb5.trans hb6), ho'.trans (ho5.trans ho6)⟩, by simp [intOf]; omega⟩
            rw [flat_take M k hkM, ← List.append_assoc, ← List.append_assoc]
            exact hB6
          · obtain rfl : k = n := by omega
            rw [List.take_of_length_le (by rw [HN.out]; omega)] at hB
            have hfin : hd ++ flat M = frm c M := by rw [← HD.out, ← HM.out]; simp [frm]
            rw [hfin] at hB
            have hne : frm c M ≠ [] := by simp [frm]
            have hfl := length_frm c M
            have hszf := size_str (frm c M)
            have HSZ : Hid ((str (frm c M)).size ≤ 900000) := by show _ ≤ _; omega
            clear hszf hfl hfin hMl
            go_wp2_with fail
            refine (String_any _ _ _ _ hB hne).mono ?_
            rintro e w7 ⟨rfl, hb7⟩
            go_wp2_with fail
            refine (Sum_any (str (frm c M)) _ HSZ.out).mono ?_
            rw [data_str]
            rintro e w8 ⟨rfl, hb8⟩
            go_wp2_with fail
            go_ret
            exact ⟨ret_str (by rw [HM.out]), hbW.trans (hb'.trans (hb7.trans (hb8.mono (by have := hb'.size; have := hb7.size; have := hbW.size; omega))))⟩
end Go.Proofs.Ytdiiggmcdpiahaa
