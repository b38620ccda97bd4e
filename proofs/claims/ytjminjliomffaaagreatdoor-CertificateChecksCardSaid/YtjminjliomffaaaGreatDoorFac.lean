/- Trial division: the list that it yields; the iterator of prime.factors. -/
import Derived.Test.YtjminjliomffaaaGreatDoorRng
import Derived.Test.YtjminjliomffaaaGreatDoorPrmC
import Derived.Test.YtjminjliomffaaaGreatDoorFer
namespace Go.Proofs.YtjminjliomffaaaGreatDoor
open Go.RowKit Go.Shelf Num
set_option maxRecDepth 20000
set_option linter.unusedVariables false
attribute [local go_sem] Oper.semAt_some

namespace Num
/-- what trial division yields, from the number and the divisor at hand on; false: at the outer loop's head, true: at the inner one's -/
inductive Fac : Bool → Nat → Nat → List Nat → Prop
  | enter {n p : Nat} {l : List Nat} : p * p ≤ n → Fac true n p l → Fac false n p l
  | last {n p : Nat} : ¬ p * p ≤ n → 1 < n → Fac false n p [n]
  | one {n p : Nat} : ¬ p * p ≤ n → ¬ 1 < n → Fac false n p []
  | div {n p : Nat} {l : List Nat} : n % p = 0 → Fac true (n / p) p l → Fac true n p (p :: l)
  | next {n p : Nat} {l : List Nat} : n % p ≠ 0 → Fac false n (p + 1) l → Fac true n p l
theorem fac_ex (N : Nat) : ∀ (k : Nat) (b : Bool) (n p : Nat), 2 * (N + 2 - p + n) + (if b then 0 else 1) ≤ k → 1 ≤ n → n ≤ N → 2 ≤ p → (b = true → p ≤ N) → ∃ l, Fac b n p l := by
  intro k
  induction k with
  | zero => intro b n p h1 h2; exfalso; cases b <;> simp at h1 <;> omega
  | succ k ih =>
    intro b n p h1 h2 h3 h4 h5
    cases b with
    | false =>
      simp only [Bool.false_eq_true, if_false] at h1
      by_cases h : p * p ≤ n
      · have hp : p ≤ N := Nat.le_trans (Nat.le_mul_of_pos_left p (by omega)) (Nat.le_trans h h3)
        obtain ⟨l, hl⟩ := ih true n p (by simp; omega) h2 h3 h4 (fun _ => hp)
        exact ⟨l, .enter h hl⟩
      · by_cases h1n : 1 < n
        · exact ⟨_, .last h h1n⟩
        · exact ⟨_, .one h h1n⟩
    | true =>
      simp only [if_true] at h1
      have hp := h5 rfl
      by_cases h : n % p = 0
      · have hpn : p ≤ n := Nat.le_of_dvd (by omega) (Nat.dvd_of_mod_eq_zero h)
        have hd1 : 1 ≤ n / p := (Nat.le_div_iff_mul_le (by omega)).2 (by omega)
        have hd2 : n / p < n := Nat.div_lt_self (by omega) (by omega)
        obtain ⟨l, hl⟩ := ih true (n / p) p (by simp; omega) hd1 (by omega) h4 h5
        exact ⟨_, .div h hl⟩
      · obtain ⟨l, hl⟩ := ih false n (p + 1) (by simp; omega) h2 h3 (by omega) (fun e => by cases e)
        exact ⟨_, .next h hl⟩
theorem Fac.inv_false {n p : Nat} {l : List Nat} (h : Fac false n p l) : (p * p ≤ n → Fac true n p l) ∧ (¬ p * p ≤ n → (1 < n → l = [n]) ∧ (¬ 1 < n → l = [])) := by
  cases h with
  | enter h1 h2 => exact ⟨fun _ => h2, fun h => absurd h1 h⟩
  | last h1 h2 => exact ⟨fun h => absurd h h1, fun _ => ⟨fun _ => rfl, fun h => absurd h2 h⟩⟩
  | one h1 h2 => exact ⟨fun h => absurd h h1, fun _ => ⟨fun h => absurd h h2, fun _ => rfl⟩⟩
theorem Fac.inv_true {n p : Nat} {l : List Nat} (h : Fac true n p l) : (n % p = 0 → ∃ l', l = p :: l' ∧ Fac true (n / p) p l') ∧ (n % p ≠ 0 → Fac false n (p + 1) l) := by
  cases h with
  | div h1 h2 => exact ⟨fun _ => ⟨_, rfl, h2⟩, fun h => absurd h1 h⟩
  | next h1 h2 => exact ⟨fun h => absurd h h1, fun _ => h2⟩
theorem fac_all (n : Nat) (h : 1 ≤ n) : ∃ l, Fac false n 2 l := fac_ex n _ false n 2 (Nat.le_refl _) h (Nat.le_refl _) (Nat.le_refl _) (fun e => by cases e)
theorem Fac.len : ∀ {b : Bool} {n p : Nat} {l : List Nat}, Fac b n p l → 1 ≤ n → 2 ≤ p → 2 ^ l.length ≤ n := by
  intro b n p l h
  induction h with
  | enter h _ ih => intro h1 h2; exact ih h1 h2
  | last h h1n => intro h1 h2; simp; omega
  | one h h1n => intro h1 h2; simpa using h1
  | div h _ ih =>
    rename_i n p l _
    intro h1 h2
    have hpn : p ≤ n := Nat.le_of_dvd (by omega) (Nat.dvd_of_mod_eq_zero h)
    have hd1 : 1 ≤ n / p := (Nat.le_div_iff_mul_le (by omega)).2 (by omega)
    have := ih hd1 h2
    rw [List.length_cons, Nat.pow_succ]
    have h3 := Nat.div_add_mod n p
    rw [h, Nat.add_zero] at h3
    calc 2 ^ l.length * 2 ≤ n / p * p := Nat.mul_le_mul this h2
      _ = n := by rw [Nat.mul_comm]; exact h3
  | next h _ ih => intro h1 h2; exact ih h1 (by omega)
end Num

/-- a box of a number -/
def Ux (W : World) (b n : Nat) : Prop := W.heap[b]? = some (.cells #[.int .u64 (n : Int)] 41 (0, 0))
section
variable {W W' : World} {b n : Nat}
theorem Ux.cell (h : Ux W b n) : W.cell? ⟨b, 0, none⟩ = some (.int .u64 (n : Int)) := by
  unfold World.cell?; rw [show W.heap[(⟨b, 0, none⟩ : Addr).block]? = _ from h]; rfl
theorem Ux.free (h : Ux W b n) : W.frozen? ⟨b, 0, none⟩ = false := by
  unfold World.frozen?; rw [show W.heap[(⟨b, 0, none⟩ : Addr).block]? = _ from h]; simp
theorem Ux.lt (h : Ux W b n) : b < W.heap.size := (Array.getElem?_eq_some_iff.1 h).1
theorem Ux.holds (h : Ux W b n) (hh : Holds0 b W W') : Ux W' b n := by unfold Ux; rw [show W'.heap[b]? = _ from hh]; exact h
theorem Ux.new (W : World) (n : Nat) : Ux (W.alloc (.cells #[.int .u64 (n : Int)] 41)) W.heap.size n := heap_alloc_new W _
theorem Ux.set (h : Ux W b n) (m : Nat) : Ux (W.setCell ⟨b, 0, none⟩ (.int .u64 (m : Int))) b m := by
  unfold Ux at h ⊢
  simp only [World.setCell, Array.getElem?_modify, if_true, h, Option.map_some]
  rfl
end
def uxv (w : World) (b : Nat) : Nat := match w.cell? ⟨b, 0, none⟩ with | some (.int _ x) => x.toNat | _ => 0
theorem Ux.val {W : World} {b n : Nat} (h : Ux W b n) : uxv W b = n := by unfold uxv; rw [h.cell]; simp
end Go.Proofs.YtjminjliomffaaaGreatDoor
