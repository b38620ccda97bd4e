/- modular.digits and modular.Exp: a range over a function. -/
import Derived.RangeFuncNested
import Derived.RangeFuncBound
import Derived.RangeFuncCalls
import Derived.RangeFuncLeaves
import Derived.Shelf.Abstract
import Derived.Shelf.RegionOpen
import Derived.WalkKit
import Derived.OwnWalkIn
import Derived.TacticsInMore
import Derived.LoopNIn
import Derived.LoopIn
import Derived.Test.YtdlbnioidfhhcaaGreatTimes
import Derived.Test.YtdlbnioidfhhcaaGreatNatH
namespace Go.Proofs.YtdlbnioidfhhcaaGreat
open Go.RowKit Go.Shelf Num
set_option maxRecDepth 20000
set_option linter.unusedVariables false
attribute [local go_sem] Oper.semAt_some

namespace Num
/-- the binary digits of a number, the most significant one first -/
def bitsL (e : Nat) : List Bool := (List.range (bl e)).map fun j => tb e (bl e - 1 - j)
theorem length_bitsL (e : Nat) : (bitsL e).length = bl e := by simp [bitsL]
theorem bitsL_take (e k : Nat) (h : k < bl e) : (bitsL e).take (k + 1) = (bitsL e).take k ++ [tb e (bl e - 1 - k)] := by
  rw [List.take_succ_eq_append_getElem (by rw [length_bitsL]; exact h)]
  congr 2
  simp [bitsL]
/-- the number of binary digits -/
def hor (l : List Bool) : Nat := l.foldl (fun n b => 2 * n + (if b then 1 else 0)) 0
theorem hor_nil : hor [] = 0 := rfl
theorem hor_snoc (l : List Bool) (b : Bool) : hor (l ++ [b]) = 2 * hor l + (if b then 1 else 0) := by simp [hor]
theorem hor_take (e : Nat) : ∀ k, k ≤ bl e → hor ((bitsL e).take k) = e / 2 ^ (bl e - k)
  | 0, _ => by rw [List.take_zero, hor_nil, Nat.sub_zero, Nat.div_eq_of_lt (lt_bl e)]
  | k + 1, h => by
    rw [bitsL_take e k (by omega), hor_snoc, hor_take e k (by omega)]
    have e1 := half_bit e (bl e - 1 - k)
    have e2 := tb_val e (bl e - 1 - k)
    rw [show bl e - 1 - k + 1 = bl e - k from by omega, show bl e - 1 - k = bl e - (k + 1) from by omega] at e1
    rw [show bl e - 1 - k = bl e - (k + 1) from by omega] at e2 ⊢
    rw [e1, e2]
theorem hor_bits (e : Nat) : hor (bitsL e) = e := by
  have := hor_take e (bl e) (Nat.le_refl _)
  rw [List.take_of_length_le (by rw [length_bitsL]; exact Nat.le_refl _)] at this
  rw [this]; simp
end Num

/-- a box of a string -/
def Bx (W : World) (b : Nat) (x : ByteArray) : Prop := W.heap[b]? = some (.cells #[.string x] 22 (0, 0))
section
variable {W W' : World} {b : Nat} {x y : ByteArray}
theorem Bx.cell (h : Bx W b x) : W.cell? ⟨b, 0, none⟩ = some (.string x) := by
  unfold World.cell?; rw [show W.heap[(⟨b, 0, none⟩ : Addr).block]? = _ from h]; rfl
theorem Bx.free (h : Bx W b x) : W.frozen? ⟨b, 0, none⟩ = false := by
  unfold World.frozen?; rw [show W.heap[(⟨b, 0, none⟩ : Addr).block]? = _ from h]; simp
theorem Bx.lt (h : Bx W b x) : b < W.heap.size := (Array.getElem?_eq_some_iff.1 h).1
theorem Bx.below {B : Nat} (h : Bx W b x) (hb : Below B W W') (hB : b < B) : Bx W' b x := by unfold Bx; rw [hb.block b hB]; exact h
theorem Bx.alloc (h : Bx W b x) (o : Obj) : Bx (W.alloc o) b x := by unfold Bx; rw [Below.heap_alloc _ _ _ h.lt]; exact h
theorem Bx.new (W : World) (x : ByteArray) : Bx (W.alloc (.cells #[.string x] 22)) W.heap.size x := heap_alloc_new W _
theorem Bx.set (h : Bx W b x) (y : ByteArray) : Bx (W.setCell ⟨b, 0, none⟩ (.string y)) b y := by
  unfold Bx at h ⊢
  simp only [World.setCell, Array.getElem?_modify, if_true, h, Option.map_some]
  rfl
theorem Bx.other (h : Bx W b x) {p : Addr} (hp : p.block ≠ b) (v : Value) : Bx (W.setCell p v) b x := by
  unfold Bx; rw [Below.heap_setCell _ _ _ _ (fun e => hp e.symm)]; exact h
end
theorem isN1 : IsN ⟨#[1]⟩ 1 := ⟨by decide +kernel, by decide +kernel⟩
theorem keeps_of_below {W W' : World} (h : Below W.heap.size W W') : KeepsOthers W W' :=
  ⟨h.size, fun k o hk _ => (h.block k (Array.getElem?_eq_some_iff.1 hk).1).trans hk⟩
theorem Bx.own {A B : World} {b : Nat} {x : ByteArray} {row : Option Nat} (h : Bx A b x) (hg : A.grownBy B row) (hr : ∀ r, row = some r → ∃ o : Obj, A.heap[r]? = some o ∧ o.isCells = false) : Bx B b x :=
  (grownBy_keeps_cells hg hr h rfl).trans h
theorem digits_any (s : ByteArray) (w : World) :
    Calls Tryz.prog 134 #[.string s] w fun e w' => e = .returned (.func (.func 142) #[] #[.pointer (some ⟨w.heap.size, 0, none⟩)]) ∧ w' = w.alloc (.cells #[.string s] 22) := by
  go_enter Tryz.func134, Tryz.ntmps134
  go_wp2
  go_ret
  exact ⟨rfl, rfl⟩
/-- a cell that holds something goes on holding it -/
def KeepCell (B : Nat) (W W' : World) : Prop := ∀ v, W.cell? ⟨B, 0, none⟩ = some v → W'.cell? ⟨B, 0, none⟩ = some v
set_option maxRecDepth 100000 in
set_option maxHeartbeats 2000000 in
theorem dig1_in (n : Nat) (hn : 1 ≤ n) (l Bn : Nat) (s : ByteArray) (e : Nat) (hs : IsN s e) (J Jx : List Bool → World → Prop)
    (hY : ∀ pre x W, J pre W → pre.length < bl e → YieldAt Fence.wide (n - 1) Tryz.prog l #[.bool x] W fun e W' =>
      (e = .returned (.bool true) ∧ J (pre ++ [x]) W' ∧ KeepCell Bn W W') ∨ (e = .returned (.bool false) ∧ Jx (pre ++ [x]) W'))
    (W : World) (hBn : W.cell? ⟨Bn, 0, none⟩ = some (.string s)) (h0 : J [] W) :
    CallsIn Fence.wide n Tryz.prog 142 #[.func (.yield l) #[] #[], .pointer (some ⟨Bn, 0, none⟩)] W fun r W' => (∃ v, r = .returned v) ∧
      ((∃ ys, ys = bitsL e ∧ J ys W') ∨ (∃ pre, pre <+: bitsL e ∧ Jx pre W')) := by
  have hbl : bl e ≤ 1024 := by
    have h1 : bl e ≤ 8 * s.size := by rw [bl_le_iff, Nat.pow_mul, hs.size]; exact lt_blen e
    have := hs.small
    omega
  refine callsIn_of_wp Tryz.func142 rfl trivial ?_ rfl
  simp only [Tryz.ntmps142, List.size_toArray, List.length_cons, List.length_nil, Nat.reduceAdd, Nat.reduceSub, Array.replicate_succ, Array.replicate_zero, List.push_toArray, List.append_toArray, List.nil_append, List.cons_append]
  have HY := Lib.hid hY
  have HS := Lib.hid hs
  clear hY hs
  gi_wp2
  refine ⟨trivial, ?_⟩
  refine (callsIn_wide.2 (Bits_any s e _ HS.out)).mono ?_
  rintro r w' ⟨rfl, rfl⟩
  gi_wp2
  gi_loopw [3] (fun p wr => ∃ (k j : Nat) (x : Int), p = .int .i64 x ∧ Hid (x = (j : Int) - 1) ∧ k + j = bl e ∧ J ((bitsL e).take k) wr ∧ wr.cell? ⟨Bn, 0, none⟩ = some (.string s))
    (fun p wr => (intOf p + 1).toNat)
  case atStart => exact ⟨0, bl e, _, rfl, rfl, by omega, by rw [List.take_zero]; exact h0, hBn⟩
  case round =>
    clear h0 hBn
    obtain ⟨k, j, x, rfl, hx, hkj, hJ, hc⟩ := hrel
    rcases j with _ | i
    · obtain rfl : x = -1 := by have := hx.out; simpa using this
      clear hx
      have hall : (bitsL e).take k = bitsL e := List.take_of_length_le (by rw [length_bitsL]; omega)
      rw [hall] at hJ
      clear hall
      gi_wp2
      go_end0
      exact ⟨⟨_, rfl⟩, .inl ⟨bitsL e, rfl, hJ⟩⟩
    · obtain rfl : x = i := by have := hx.out; omega
      clear hx
      have hstep := bitsL_take e k (by omega)
      rw [show bl e - 1 - k = i from by omega] at hstep
      have hpre : (bitsL e).take (k + 1) <+: bitsL e := List.take_prefix _ _
      rw [hstep] at hpre
      have HST := Lib.hid hstep
      have HPR := Lib.hid hpre
      clear hstep hpre
      have hbit : ∀ w, Calls Tryz.prog 56 #[.string s, .int .i64 (i : Int)] w fun r w' => r = .returned (.bool (tb e i)) ∧ w = w' := fun w => Bit_any s e i w HS.out (by omega)
      have HBIT := Lib.hid hbit
      clear hbit
      gi_wp2
      refine ⟨trivial, ?_⟩
      refine (callsIn_wide.2 (HBIT.out _)).mono ?_
      rintro r w' ⟨rfl, rfl⟩
      obtain ⟨fn, tmps, assign, body, hy, hR⟩ := HY.out _ (tb e i) wr hJ (by rw [List.length_take, length_bitsL]; omega)
      gi_wp2
      refine hR.mono ?_
      rintro r W3 (⟨rfl, hJ3, hk3⟩ | ⟨rfl, hJx3⟩)
      · have hc3 := hk3 _ hc
        rw [← HST.out] at hJ3
        gi_wp2
        go_roundw
        case rel => exact ⟨k + 1, i, _, rfl, rfl, by omega, hJ3, hc3⟩
        case measure => simp [intOf]
      · gi_wp2
        refine bodyPost_ret (results_none rfl _ _ _) rfl ?_
        exact ⟨⟨_, rfl⟩, .inr ⟨_, HPR.out, hJx3⟩⟩
theorem dig_stops (n : Nat) (hn : 1 ≤ n) (Bn : Nat) (s : ByteArray) (e : Nat) (hs : IsN s e) (w : World) (hBn : Bn < w.heap.size) (hc : w.cell? ⟨Bn, 0, none⟩ = some (.string s)) :
    SeqStopsK Fence.wide n Tryz.prog 142 #[.pointer (some ⟨Bn, 0, none⟩)] (fun x : Bool => #[Value.bool x]) (KeepCell Bn) (fun ys => ys = bitsL e) (fun pre => pre <+: bitsL e) (bl e) w := fun l J Jx W hW _ _ hY h0 =>
  dig1_in n hn l Bn s e hs J Jx hY W ((hW.cell (p := ⟨Bn, 0, none⟩) hBn).trans hc) h0
set_option maxRecDepth 100000 in
set_option maxHeartbeats 4000000 in
theorem Exp_any (s t v : ByteArray) (a e m : Nat) (w : World) (hs : IsN s a) (ht : IsN t e) (hv : IsN v m) (h0 : 0 < m) :
    Calls Tryz.prog 111 #[.string s, .string t, .string v] w fun r w' => r = .returned (.tuple #[.string (enc (a ^ e % m)), .int .i64 0]) ∧ Below w.heap.size w w' := by
  have hk := chk21 hs ht hv h0
  have HS := Lib.hid hs; clear hs
  have HT := Lib.hid ht; clear ht
  have HV := Lib.hid hv; clear hv
  have HK := Lib.hid hk; clear hk
  refine (callsIn_wide (n := 10)).1 ?_
  refine callsIn_of_wp_marks Tryz.func111 rfl trivial ?_ rfl
  simp only [Tryz.ntmps111, List.size_toArray, List.length_cons, List.length_nil, Nat.reduceAdd, Nat.reduceSub, Array.replicate_succ, Array.replicate_zero, List.push_toArray, List.append_toArray, List.nil_append, List.cons_append]
  gi_wp2
  obtain ⟨w2, hw2⟩ : ∃ w2, (w.alloc (.cells #[.string s] 22)).alloc (.cells #[.string v] 22) = w2 := ⟨_, rfl⟩
  have hsz : w2.heap.size = w.heap.size + 1 + 1 := by rw [← hw2]; simp
  have hba : Bx w2 w.heap.size s := by rw [← hw2]; exact (Bx.new w s).alloc _
  have hbm : Bx w2 (w.heap.size + 1) v := by rw [← hw2]; have := Bx.new (w.alloc (.cells #[.string s] 22)) v; simpa using this
  have hb2 : Below w.heap.size w w2 := by rw [← hw2]; exact below_two w _ _
  have hck := check21 w2 s t v
  rw [HK.out, hsz] at hck
  rw [hw2]
  clear hw2
  have HCK := Lib.hid hck
  clear hck
  refine ⟨trivial, ?_⟩
  refine (callsIn_wide.2 HCK.out).mono ?_
  rintro r w3 ⟨rfl, hb3⟩
  have hba3 := hba.below hb3 (by omega)
  have hbm3 := hbm.below hb3 (by omega)
  have hbl3 := hb2.trans (hb3.mono (by omega))
  have hz3 := hb3.size
  clear hba hbm hb2 hb3 HCK
  have ca := hba3.cell
  have cm := hbm3.cell
  gi_wp2
  refine ⟨trivial, ?_⟩
  refine (callsIn_wide.2 (reduced_any s v a m _ HS.out HV.out h0)).mono ?_
  rintro r w4 ⟨rfl, hb4⟩
  have hba4 := hba3.below hb4 hba3.lt
  have hbm4 := hbm3.below hb4 hbm3.lt
  have hbl4 := hbl3.trans (hb4.mono hbl3.size)
  have hz4 := hb4.size
  clear hba3 hbm3 hbl3 hb4 ca cm
  have ca := hba4.cell
  have fa := hba4.free
  have cm := hbm4.cell
  gi_wp2
  have hba5 := hba4.set (enc (a % m))
  have hbm5 := hbm4.other (p := ⟨w.heap.size, 0, none⟩) (by simp) (.string (enc (a % m)))
  have hbl5 := hbl4.setCell (p := ⟨w.heap.size, 0, none⟩) (Nat.le_refl _) (.string (enc (a % m)))
  generalize w4.setCell _ _ = w5 at hba5 hbm5 hbl5 ⊢
  have hz5 := hbm5.lt
  clear hba4 hbm4 hbl4 ca fa cm hz3 hz4
  refine ⟨trivial, ?_⟩
  refine (callsIn_wide.2 (reduced_any ⟨#[1]⟩ v 1 m _ isN1 HV.out h0)).mono ?_
  rintro r w6 ⟨rfl, hb6⟩
  have hba6 := hba5.below hb6 hba5.lt
  have hbm6 := hbm5.below hb6 hbm5.lt
  have hbl6 := hbl5.trans (hb6.mono hbl5.size)
  clear hba5 hbm5 hbl5 hb6 hz5
  gi_wp2
  have hba7 := hba6.alloc (.cells #[.string (enc (1 % m))] 22)
  have hbm7 := hbm6.alloc (.cells #[.string (enc (1 % m))] 22)
  have hbo7 := Bx.new w6 (enc (1 % m))
  have hbl7 := hbl6.alloc hbl6.size (.cells #[.string (enc (1 % m))] 22)
  have hz7 := hbm6.lt
  obtain ⟨bo, hbo⟩ : ∃ bo, w6.heap.size = bo := ⟨_, rfl⟩
  have hs7 : (w6.alloc (.cells #[.string (enc (1 % m))] 22)).heap.size = bo + 1 := by rw [World.size_alloc, hbo]
  rw [hbo] at hbo7 hz7 ⊢
  generalize w6.alloc _ = w7 at hba7 hbm7 hbo7 hbl7 hs7 ⊢
  clear hba6 hbm6 hbl6 hbo
  refine ⟨trivial, ?_⟩
  refine (callsIn_wide.2 (digits_any t _)).mono ?_
  rintro r w8 ⟨rfl, rfl⟩
  gi_wp2
  have hba8 := hba7.alloc (.cells #[.string t] 22)
  have hbm8 := hbm7.alloc (.cells #[.string t] 22)
  have hbo8 := hbo7.alloc (.cells #[.string t] 22)
  have hbe8 := Bx.new w7 t
  have hbl8 := hbl7.alloc hbl7.size (.cells #[.string t] 22)
  rw [hs7] at hbe8
  have hs8 : (w7.alloc (.cells #[.string t] 22)).heap.size = bo + 1 + 1 := by rw [World.size_alloc, hs7]
  generalize w7.alloc _ = w8 at hba8 hbm8 hbo8 hbe8 hbl8 hs8 ⊢
  clear hba7 hbm7 hbo7 hbl7 hs7
  have h1m : (1 : Nat) % m = a ^ hor [] % m := by rw [hor_nil, Nat.pow_zero]
  rw [h1m] at hbo8
  refine wpIn_rangeFunc_ownF rfl (by omega) (gf := 142) (lb := #[.pointer (some ⟨bo + 1, 0, none⟩)]) rfl trivial (enters_of Tryz.func142 (by kernel_rfl) rfl)
    (dig_stops (10 - 1) (by omega) (bo + 1) t e HT.out w8 hbe8.lt hbe8.cell) (fun h k v hv => k v (h v hv)) ?hKb (Below.refl _ _) (fun _ => rfl)
    (fun pre W => (Bx W w.heap.size (enc (a % m)) ∧ Bx W (w.heap.size + 1) v ∧ Bx W bo (enc (a ^ hor pre % m))) ∧ Below w.heap.size w W)
    (fun _ _ _ => False)
    (OwnFrom.and (Own.from (fun s A B row hs hg hr => ⟨hs.1.own hg hr, hs.2.1.own hg hr, hs.2.2.own hg hr⟩) _) (ownFrom_below (Nat.le_refl _) hbl8.size))
    (fun _ _ _ _ _ hs _ _ => hs)
    ⟨⟨hba8, hbm8, hbo8⟩, hbl8⟩
    (fun x => { tmps := #[.string s, .string t, .string v, .pointer (some ⟨w.heap.size, 0, none⟩), undef, .pointer (some ⟨w.heap.size + 1, 0, none⟩), .string ⟨#[]⟩, .int .i64 0, .int .i64 0, .pointer (some ⟨bo, 0, none⟩), .bool x,
      .string s, .string t, .slice (some ⟨w.heap.size + 1 + 1, 0, none⟩) 2 2, .string v, .slice (some ⟨w.heap.size + 1 + 1 + 1, 0, none⟩) 1 1, .int .i64 0, .int .i64 0, .bool false, undef, .string s, .string v,
      .string (enc (a % m)), .string v, .string (enc (1 % m)), .string t, .func (.func 142) #[] #[.pointer (some ⟨bo + 1, 0, none⟩)], .bool x, undef, undef, undef, undef, undef, undef, undef, undef, undef, undef], defers := [] }) ?assign ?body ?done ?stop
  case hKb =>
    intro W l o o' hl ho hoc _ v hv
    exact _root_.Go.cell_kept hv (grownBy_putObj' W l o') (fun r e => by cases e; exact ⟨_, ho, hoc⟩)
  case assign =>
    intro l x W K hK
    gi_wp2
    exact hK
  case body =>
    rintro l pre x W ⟨⟨h1, h2, h3⟩, hB⟩ _
    have hst : ∀ b : Bool, a ^ hor (pre ++ [b]) % m = if b then a ^ hor pre % m * (a ^ hor pre % m) % m * (a % m) % m else a ^ hor pre % m * (a ^ hor pre % m) % m := by
      intro b
      rw [hor_snoc]
      cases b
      · simp only [Bool.false_eq_true, if_false, Nat.add_zero]
        rw [← Nat.mul_mod, ← Nat.pow_add]; congr 2; omega
      · simp only [if_true]
        rw [← Nat.mul_mod (a ^ hor pre), ← Nat.mul_mod, ← Nat.pow_add, ← Nat.pow_succ]; congr 2; omega
    have HST := Lib.hid hst
    clear hst
    obtain ⟨q, hq⟩ : ∃ q, a ^ hor pre % m = q := ⟨_, rfl⟩
    have hqm : q < m := by rw [← hq]; exact Nat.mod_lt _ h0
    rw [hq] at h3 HST
    clear hq
    have c1 := h1.cell
    have c2 := h2.cell
    have c3 := h3.cell
    have f3 := h3.free
    have hqn : IsN (enc q) q := IsN.mk' (Nat.le_trans (blen_mono (Nat.le_of_lt hqm)) HV.out.le)
    have HQN := Lib.hid hqn
    clear hqn
    gi_wp2
    refine ⟨trivial, ?_⟩
    refine (CallsIn.inRound l (callsIn_wide.2 (times_any (enc q) (enc q) v q q m _ HQN.out HQN.out HV.out h0))).mono ?_
    rintro r W2 ⟨rfl, hb2⟩
    have k1 := h1.below hb2 h1.lt
    have k2 := h2.below hb2 h2.lt
    have k3 := h3.below hb2 h3.lt
    have hB2 := hB.trans (hb2.mono hB.size)
    have hKO := keeps_of_below hb2
    have hKC : KeepCell (bo + 1) W W2 := fun v' hv' => (hb2.cell (p := ⟨bo + 1, 0, none⟩) (World.block_lt_of_cell? W _ hv')).trans hv'
    clear h1 h2 h3 hB hb2 c1 c2 c3 f3
    have f3 := k3.free
    have c3 := k3.cell
    have c1 := k1.cell
    have c2 := k2.cell
    have l1 := Nat.mod_lt (q * q) h0
    obtain ⟨q2, hq2⟩ : ∃ q2, q * q % m = q2 := ⟨_, rfl⟩
    rw [hq2] at l1 HST ⊢
    clear hq2
    cases x with
    | false =>
      have hfin := HST.out false
      simp only [Bool.false_eq_true, if_false] at hfin
      have HF := Lib.hid hfin
      clear hfin
      gi_wp2
      exact ⟨hKO.trans (KeepsOthers.setCell _ _ _), fun v' hv' => (World.cell?_setCell_other _ _ _ _ (by intro e'; injection e' with e'; omega)).trans (hKC v' hv'), ⟨k1.other (by simp; omega) _, k2.other (by simp; omega) _, by rw [HF.out]; exact k3.set _⟩, hB2.setCell (p := ⟨bo, 0, none⟩) (by simp; omega) _⟩
    | true =>
      have hfin := HST.out true
      simp only [if_true] at hfin
      have HF := Lib.hid hfin
      clear hfin
      gi_wp2
      have j1 := k1.other (p := ⟨bo, 0, none⟩) (by simp; omega) (.string (enc q2))
      have j2 := k2.other (p := ⟨bo, 0, none⟩) (by simp; omega) (.string (enc q2))
      have j3 := k3.set (enc q2)
      have jB := hB2.setCell (p := ⟨bo, 0, none⟩) (by simp; omega) (.string (enc q2))
      have jK := hKO.trans (KeepsOthers.setCell W2 ⟨bo, 0, none⟩ (.string (enc q2)))
      have jC : KeepCell (bo + 1) W (W2.setCell ⟨bo, 0, none⟩ (.string (enc q2))) := fun v' hv' => (World.cell?_setCell_other _ _ _ _ (by intro e'; injection e' with e'; omega)).trans (hKC v' hv')
      generalize W2.setCell _ _ = W3 at j1 j2 j3 jB jK jC ⊢
      clear k1 k2 k3 hB2 hKO hKC c1 c2 c3 f3
      have hq2 : IsN (enc q2) q2 := IsN.mk' (Nat.le_trans (blen_mono (Nat.le_of_lt l1)) HV.out.le)
      have ham : IsN (enc (a % m)) (a % m) := IsN.mk' (mod_le HV.out h0)
      refine ⟨trivial, ?_⟩
      refine (CallsIn.inRound l (callsIn_wide.2 (times_any (enc q2) (enc (a % m)) v q2 (a % m) m _ hq2 ham HV.out h0))).mono ?_
      rintro r W4 ⟨rfl, hb4⟩
      have k1 := j1.below hb4 j1.lt
      have k2 := j2.below hb4 j2.lt
      have k3 := j3.below hb4 j3.lt
      have kB := jB.trans (hb4.mono jB.size)
      have kO := jK.trans (keeps_of_below hb4)
      have kC : KeepCell (bo + 1) W W4 := fun v' hv' => (hb4.cell (p := ⟨bo + 1, 0, none⟩) (World.block_lt_of_cell? W3 _ (jC v' hv'))).trans (jC v' hv')
      clear j1 j2 j3 jB jK jC hb4
      have f3 := k3.free
      have c3 := k3.cell
      rw [← HF.out]
      gi_wp2
      exact ⟨kO.trans (KeepsOthers.setCell _ _ _), fun v' hv' => (World.cell?_setCell_other _ _ _ _ (by intro e'; injection e' with e'; omega)).trans (kC v' hv'), ⟨k1.other (by simp; omega) _, k2.other (by simp; omega) _, k3.set _⟩, kB.setCell (p := ⟨bo, 0, none⟩) (by simp; omega) _⟩
  case done =>
    rintro D ys W hD rfl ⟨⟨h1, h2, h3⟩, hB⟩ hK
    rw [hor_bits] at h3
    have c3 := h3.cell
    gi_wp2
    refine ⟨by simp, .inl ⟨_, _, rfl, run_takeDeferred hK, ?_⟩⟩
    exact ⟨_, results_tmp2 rfl _ _ _, rfl, hB.trans (belowK_b (w := w) (Nat.le_refl _) W D _ _ (by have := hbl8.size; omega) hK rfl rfl)⟩
  case stop =>
    rintro D c pre W _ _ h _
    exact h.elim
end Go.Proofs.YtdlbnioidfhhcaaGreat
