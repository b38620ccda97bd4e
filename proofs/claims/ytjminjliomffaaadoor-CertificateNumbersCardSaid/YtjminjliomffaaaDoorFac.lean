/- Trial division: the list that it yields; the iterator of prime.factors. -/
import Derived.Test.YtjminjliomffaaaDoorRng
import Derived.Test.YtjminjliomffaaaDoorPrmC
import Derived.Test.YtjminjliomffaaaDoorFer
namespace Go.Proofs.YtjminjliomffaaaDoor
open Go.RowKit Go.Shelf Num
set_option maxRecDepth 20000
set_option linter.unusedVariables false
attribute [local go_sem] Oper.semAt_some

namespace Num
/-- what trial division yields, from the number and the divisor at hand on; false: at the outer loop's head, true: at the inner one's -/
inductive Fac : Bool → Nat → Nat → List Nat → Prop
  | enter {n p : Nat} {l : List Nat} : p * p ≤ n → Fac true n p l → Fac false n p l
  | last {n p : Nat} : ¬ p * p ≤ n → 1 < n → Fac false n p [n]
  | one {n p : Nat} : ¬ p * p ≤ n → ¬ 1 < n → Fac false n p []
  | div {n p : Nat} {l : List Nat} : n % p = 0 → Fac true (n / p) p l → Fac true n p (p :: l)
  | next {n p : Nat} {l : List Nat} : n % p ≠ 0 → Fac false n (p + 1) l → Fac true n p l
theorem fac_ex (N : Nat) : ∀ (k : Nat) (b : Bool) (n p : Nat), 2 * (N + 2 - p + n) + (if b then 0 else 1) ≤ k → 1 ≤ n → n ≤ N → 2 ≤ p → (b = true → p ≤ N) → ∃ l, Fac b n p l := by
  intro k
  induction k with
  | zero => intro b n p h1 h2; exfalso; cases b <;> simp at h1 <;> omega
  | succ k ih =>
    intro b n p h1 h2 h3 h4 h5
    cases b with
    | false =>
      simp only [Bool.false_eq_true, if_false] at h1
      by_cases h : p * p ≤ n
      · have hp : p ≤ N := Nat.le_trans (Nat.le_mul_of_pos_left p (by omega)) (Nat.le_trans h h3)
        obtain ⟨l, hl⟩ := ih true n p (by simp; omega) h2 h3 h4 (fun _ => hp)
        exact ⟨l, .enter h hl⟩
      · by_cases h1n : 1 < n
        · exact ⟨_, .last h h1n⟩
        · exact ⟨_, .one h h1n⟩
    | true =>
      simp only [if_true] at h1
      have hp := h5 rfl
      by_cases h : n % p = 0
      · have hpn : p ≤ n := Nat.le_of_dvd (by omega) (Nat.dvd_of_mod_eq_zero h)
        have hd1 : 1 ≤ n / p := (Nat.le_div_iff_mul_le (by omega)).2 (by omega)
        have hd2 : n / p < n := Nat.div_lt_self (by omega) (by omega)
        obtain ⟨l, hl⟩ := ih true (n / p) p (by simp; omega) hd1 (by omega) h4 h5
        exact ⟨_, .div h hl⟩
      · obtain ⟨l, hl⟩ := ih false n (p + 1) (by simp; omega) h2 h3 (by omega) (fun e => by cases e)
        exact ⟨_, .next h hl⟩
theorem Fac.inv_false {n p : Nat} {l : List Nat} (h : Fac false n p l) : (p * p ≤ n → Fac true n p l) ∧ (¬ p * p ≤ n → (1 < n → l = [n]) ∧ (¬ 1 < n → l = [])) := by
  cases h with
  | enter h1 h2 => exact ⟨fun _ => h2, fun h => absurd h1 h⟩
  | last h1 h2 => exact ⟨fun h => absurd h h1, fun _ => ⟨fun _ => rfl, fun h => absurd h2 h⟩⟩
  | one h1 h2 => exact ⟨fun h => absurd h h1, fun _ => ⟨fun h => absurd h h2, fun _ => rfl⟩⟩
theorem Fac.inv_true {n p : Nat} {l : List Nat} (h : Fac true n p l) : (n % p = 0 → ∃ l', l = p :: l' ∧ Fac true (n / p) p l') ∧ (n % p ≠ 0 → Fac false n (p + 1) l) := by
  cases h with
  | div h1 h2 => exact ⟨fun _ => ⟨_, rfl, h2⟩, fun h => absurd h1 h⟩
  | next h1 h2 => exact ⟨fun h => absurd h h1, fun _ => h2⟩
theorem fac_all (n : Nat) (h : 1 ≤ n) : ∃ l, Fac false n 2 l := fac_ex n _ false n 2 (Nat.le_refl _) h (Nat.le_refl _) (Nat.le_refl _) (fun e => by cases e)
theorem Fac.len : ∀ {b : Bool} {n p : Nat} {l : List Nat}, Fac b n p l → 1 ≤ n → 2 ≤ p → 2 ^ l.length ≤ n := by
  intro b n p l h
  induction h with
  | enter h _ ih => intro h1 h2; exact ih h1 h2
  | last h h1n => intro h1 h2; simp; omega
  | one h h1n => intro h1 h2; simpa using h1
  | div h _ ih =>
    rename_i n p l _
    intro h1 h2
    have hpn : p ≤ n := Nat.le_of_dvd (by omega) (Nat.dvd_of_mod_eq_zero h)
    have hd1 : 1 ≤ n / p := (Nat.le_div_iff_mul_le (by omega)).2 (by omega)
    have := ih hd1 h2
    rw [List.length_cons, Nat.pow_succ]
    have h3 := Nat.div_add_mod n p
    rw [h, Nat.add_zero] at h3
    calc 2 ^ l.length * 2 ≤ n / p * p := Nat.mul_le_mul this h2
      _ = n := by rw [Nat.mul_comm]; exact h3
  | next h _ ih => intro h1 h2; exact ih h1 (by omega)
end Num

/-- a box of a number -/
def Ux (W : World) (b n : Nat) : Prop := W.heap[b]? = some (.cells #[.int .u64 (n : Int)] 23 (0, 0))
section
variable {W W' : World} {b n : Nat}
theorem Ux.cell (h : Ux W b n) : W.cell? ⟨b, 0, none⟩ = some (.int .u64 (n : Int)) := by
  unfold World.cell?; rw [show W.heap[(⟨b, 0, none⟩ : Addr).block]? = _ from h]; rfl
theorem Ux.free (h : Ux W b n) : W.frozen? ⟨b, 0, none⟩ = false := by
  unfold World.frozen?; rw [show W.heap[(⟨b, 0, none⟩ : Addr).block]? = _ from h]; simp
theorem Ux.lt (h : Ux W b n) : b < W.heap.size := (Array.getElem?_eq_some_iff.1 h).1
theorem Ux.holds (h : Ux W b n) (hh : Holds0 b W W') : Ux W' b n := by unfold Ux; rw [show W'.heap[b]? = _ from hh]; exact h
theorem Ux.new (W : World) (n : Nat) : Ux (W.alloc (.cells #[.int .u64 (n : Int)] 23)) W.heap.size n := heap_alloc_new W _
theorem Ux.set (h : Ux W b n) (m : Nat) : Ux (W.setCell ⟨b, 0, none⟩ (.int .u64 (m : Int))) b m := by
  unfold Ux at h ⊢
  simp only [World.setCell, Array.getElem?_modify, if_true, h, Option.map_some]
  rfl
end
def uxv (w : World) (b : Nat) : Nat := match w.cell? ⟨b, 0, none⟩ with | some (.int _ x) => x.toNat | _ => 0
theorem Ux.val {W : World} {b n : Nat} (h : Ux W b n) : uxv W b = n := by unfold uxv; rw [h.cell]; simp
theorem factors_any (n : Nat) (w : World) :
    Calls Tryd.prog 53 #[.int .u64 (n : Int)] w fun e w' => e = .returned (.func (.func 73) #[] #[.pointer (some ⟨w.heap.size, 0, none⟩)]) ∧ w' = w.alloc (.cells #[.int .u64 (n : Int)] 23) := by
  go_enter Tryd.func53, Tryd.ntmps53
  go_wp2
  go_ret
  exact ⟨rfl, rfl⟩
set_option maxRecDepth 100000 in
set_option maxHeartbeats 4000000 in
theorem fac1_in (k : Nat) (hk : 1 ≤ k) (l B n : Nat) (xs : List Nat) (hF : Fac false n 2 xs) (hn1 : 1 ≤ n) (hn : n < 1099511627776) (J : List Nat → World → Prop) (hJ : FreeOf B J)
    (hY : ∀ (pre : List Nat) (x : Nat) W1, pre ++ [x] <+: xs → J pre W1 → YieldAt Fence.wide (k - 1) Tryd.prog l #[.int .u64 (x : Int)] W1 fun e W' => e = .returned (.bool true) ∧ J (pre ++ [x]) W' ∧ Holds0 B W1 W')
    (W : World) (hU : Ux W B n) (h0 : J [] W) :
    CallsIn Fence.wide k Tryd.prog 73 #[.func (.yield l) #[] #[], .pointer (some ⟨B, 0, none⟩)] W fun e W' => (∃ v, e = .returned v) ∧ J xs W' := by
  have HY := Lib.hid hY
  have HJ := Lib.hid hJ
  have HF := Lib.hid hF
  clear hY hJ hF
  refine callsIn_of_wp Tryd.func73 rfl trivial ?_ rfl
  simp only [Tryd.ntmps73, List.size_toArray, List.length_cons, List.length_nil, Nat.reduceAdd, Nat.reduceSub, Array.replicate_succ, Array.replicate_zero, List.push_toArray, List.append_toArray, List.nil_append, List.cons_append]
  gi_wp2
  gi_loopw [3] (fun v wr => ∃ (p m : Nat) (pre rest : List Nat), v = .int .u64 (p : Int) ∧ 2 ≤ p ∧ p ≤ 1048577 ∧ 1 ≤ m ∧ m < 1099511627776 ∧ Hid (Fac false m p rest) ∧ Hid (xs = pre ++ rest) ∧ Ux wr B m ∧ J pre wr)
    (fun v _ => 1048578 - (intOf v).toNat)
  case atStart => exact ⟨2, n, [], xs, rfl, by omega, by omega, hn1, hn, HF, rfl, hU, h0⟩
  case round =>
    clear hU h0 HF hn1 hn
    obtain ⟨p, m, pre, rest, rfl, hp2, hpu, hm1, hmu, hfac, hxs, hU, hJp⟩ := hrel
    have c1 := hU.cell
    have hpp : p * p ≤ 1048577 * 1048577 := Nat.mul_le_mul hpu hpu
    have o1 : IntKind.u64.wrap ((p : Int) * (p : Int)) = ((p * p : Nat) : Int) := by rw [← Int.natCast_mul]; exact wraps_u64 _ (by omega) (by omega)
    by_cases h : p * p ≤ m
    · have hin := hfac.out.inv_false.1 h
      have d1 : decide (p * p ≤ m) = true := decide_eq_true h
      have hpl : p ≤ 1048576 := by
        rcases Nat.lt_or_ge 1048576 p with h' | h'
        · have : 1048577 * 1048577 ≤ p * p := Nat.mul_le_mul h' h'
          omega
        · exact h'
      have HIN := Lib.hid hin
      obtain ⟨pp, hpp2⟩ : ∃ pp, p * p = pp := ⟨_, rfl⟩
      rw [hpp2] at o1 d1
      clear hin hfac h hpp hpp2
      gi_wp2
      obtain ⟨wo, rfl⟩ : ∃ wo : World, wo = wr := ⟨_, rfl⟩
      gi_loopw [11] (fun _ wr => ∃ (m : Nat) (pre rest : List Nat), 1 ≤ m ∧ m < 1099511627776 ∧ Hid (Fac true m p rest) ∧ Hid (xs = pre ++ rest) ∧ Ux wr B m ∧ J pre wr)
        (fun _ wr => uxv wr B)
      case atStart => exact ⟨m, pre, rest, hm1, hmu, HIN, hxs, hU, hJp⟩
      case round =>
        clear hU hJp HIN hxs hm1 hmu c1 o1 d1
        obtain ⟨m, pre, rest, hm1, hmu, hfac, hxs, hU, hJp⟩ := hrel
        have c1 := hU.cell
        have nz : ((p : Int) == 0) = false := by rw [beq_eq_false_iff_ne]; omega
        have nz2 : ¬ ((p : Int) = 0) := by omega
        have m1 : (m : Int).tmod (p : Int) = ((m % p : Nat) : Int) := by rw [Int.tmod_eq_emod_of_nonneg (by omega)]; simp
        have q1 : (m : Int).tdiv (p : Int) = ((m / p : Nat) : Int) := by rw [Int.tdiv_eq_ediv_of_nonneg (by omega)]; simp
        by_cases hd : m % p = 0
        · obtain ⟨rest', hr', hfac'⟩ := hfac.out.inv_true.1 hd
          rw [hd] at m1
          have hpm : p ≤ m := Nat.le_of_dvd (by omega) (Nat.dvd_of_mod_eq_zero hd)
          have hd1 : 1 ≤ m / p := (Nat.le_div_iff_mul_le (by omega)).2 (by omega)
          have hd2 : m / p < m := Nat.div_lt_self (by omega) (by omega)
          have hx2 : xs = pre ++ [p] ++ rest' := by rw [hxs.out, hr']; simp
          have hpx : pre ++ [p] <+: xs := ⟨rest', hx2.symm⟩
          obtain ⟨fn, tmps, assign, body, hy, hR⟩ := HY.out pre p wr hpx hJp
          have HX2 := Lib.hid hx2
          have HF2 := Lib.hid hfac'
          have HDD := Lib.hid (And.intro hd1 hd2)
          obtain ⟨mq, hmq⟩ : ∃ mq, m / p = mq := ⟨_, rfl⟩
          rw [hmq] at q1 HF2 HDD
          have w1 : IntKind.u64.wrap ((mq : Nat) : Int) = (mq : Int) := wraps_u64 _ (by omega) (by have := HDD.out.2; omega)
          have hval := hU.val
          have HVAL := Lib.hid hval
          clear hd hr' hfac' hpm hd1 hd2 hx2 hpx hmq hfac hxs hval
          gi_wp2
          refine hR.mono ?_
          rintro e W3 ⟨rfl, hJ3, hh3⟩
          have hU3 := hU.holds hh3
          have c3 := hU3.cell
          have f3 := hU3.free
          gi_wp2
          have hU4 := hU3.set mq
          exact ⟨⟨mq, _, rest', HDD.out.1, by have := HDD.out.2; omega, HF2.out, HX2.out, hU4, HJ.out _ _ _ hJ3⟩, by rw [hU4.val, HVAL.out]; exact HDD.out.2⟩
        · have hnx := hfac.out.inv_true.2 hd
          have HNX := Lib.hid hnx
          have hml := Nat.mod_lt m (show 0 < p by omega)
          obtain ⟨r, hr⟩ : ∃ r, m % p = r := ⟨_, rfl⟩
          rw [hr] at m1 hd hml
          clear hnx hr hfac
          gi_wp2
          exact ⟨⟨p + 1, m, pre, rest, by go_num, by omega, by omega, hm1, hmu, HNX.out, hxs, hU, hJp⟩, by simp [intOf]; omega⟩
    · have d1 : decide (p * p ≤ m) = false := decide_eq_false h
      obtain ⟨i1, i2⟩ := hfac.out.inv_false.2 h
      obtain ⟨pp, hpp2⟩ : ∃ pp, p * p = pp := ⟨_, rfl⟩
      rw [hpp2] at o1 d1
      clear hfac h hpp hpp2
      by_cases h1n : 1 < m
      · have hr := i1 h1n
        have hx2 : xs = pre ++ [m] := by rw [hxs.out, hr]
        have hpx : pre ++ [m] <+: xs := ⟨[], by rw [hx2]; simp⟩
        obtain ⟨fn, tmps, assign, body, hy, hR⟩ := HY.out pre m wr hpx hJp
        have HX2 := Lib.hid hx2
        clear i1 i2 hr hx2 hpx hxs
        gi_wp2
        refine hR.mono ?_
        rintro e W3 ⟨rfl, hJ3, hh3⟩
        gi_wp2
        go_end0
        exact ⟨⟨_, rfl⟩, by rw [HX2.out]; exact hJ3⟩
      · have hr := i2 h1n
        have hx2 : xs = pre := by rw [hxs.out, hr]; simp
        have HX2 := Lib.hid hx2
        clear i1 i2 hr hx2 hxs
        gi_wp2
        go_end0
        exact ⟨⟨_, rfl⟩, by rw [HX2.out]; exact hJp⟩
theorem fac_seq (k : Nat) (hk : 1 ≤ k) (B n : Nat) (xs : List Nat) (hF : Fac false n 2 xs) (hn1 : 1 ≤ n) (hn : n < 1099511627776) (w : World) (hU : Ux w B n) :
    SeqC k Tryd.prog 73 #[.pointer (some ⟨B, 0, none⟩)] (fun x : Nat => Value.int .u64 (x : Int)) B xs w := fun l J W hh _ _ hJ hY h0 =>
  fac1_in k hk l B n xs hF hn1 hn J hJ hY W (hU.holds hh) h0
end Go.Proofs.YtjminjliomffaaaDoor
