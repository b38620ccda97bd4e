import Derived.Test.YtjminjliomffaaaGreatDoorFac
import Derived.Test.YtjminjliomffaaaGreatDoorPrmC
import Derived.Test.YtjminjliomffaaaGreatDoorMod
import Derived.Maps.AppendAt
import Derived.RangeFuncBox
/- prime.Factors and its reference. -/
namespace Go.Proofs.YtjminjliomffaaaGreatDoor
open Go.RowKit Go.Shelf Num
set_option maxRecDepth 20000
set_option linter.unusedVariables false
attribute [local go_sem] Oper.semAt_some

theorem Num.Fac.mem_le : ∀ {b : Bool} {n p : Nat} {l : List Nat}, Fac b n p l → 1 ≤ n → 2 ≤ p → ∀ x ∈ l, x ≤ n := by
  intro b n p l h
  induction h with
  | enter h _ ih => exact ih
  | last h h1n => intro h1 h2 x hx; simp at hx; omega
  | one h h1n => intro h1 h2 x hx; simp at hx
  | div h _ ih =>
    rename_i n p l _
    intro h1 h2 x hx
    have hpn : p ≤ n := Nat.le_of_dvd (by omega) (Nat.dvd_of_mod_eq_zero h)
    have hd1 : 1 ≤ n / p := (Nat.le_div_iff_mul_le (by omega)).2 (by omega)
    rcases List.mem_cons.1 hx with e | hx
    · omega
    · exact Nat.le_trans (ih hd1 h2 x hx) (Nat.div_le_self _ _)
  | next h _ ih => intro h1 h2; exact ih h1 (by omega)
/-- a slice of strings -/
def SL (W : World) (v : Value) (L : List ByteArray) : Prop := (v = .slice none 0 0 ∧ L = []) ∨ ∃ b c, v = .slice (some ⟨b, 0, none⟩) L.length c ∧ L.length ≤ c ∧ b < W.heap.size ∧ StrAt W b L
theorem SL.below {W W' : World} {v : Value} {L : List ByteArray} (h : SL W v L) (hb : Below W.heap.size W W') : SL W' v L := by
  rcases h with h | ⟨b, c, h1, h2, h3, h4⟩
  · exact .inl h
  · exact .inr ⟨b, c, h1, h2, Nat.lt_of_lt_of_le h3 hb.size, h4.below hb h3⟩
theorem SL.of_own {W : World} {B : Nat} {v : Value} {L : List ByteArray} (h : W.ownsRow B 30 1 v L.length (L.map Value.string)) : SL W v L := by
  rcases Nat.eq_zero_or_pos L.length with h0 | h0
  · rcases h.2 with ⟨h1, _⟩ | ⟨g, cap, cur, rfl, _, h2, h3, _, _⟩
    · exact .inl ⟨h1, List.length_eq_zero_iff.1 h0⟩
    · exact .inr ⟨g, cap, rfl, h3, (Array.getElem?_eq_some_iff.1 h2).1, fun j hj => by omega⟩
  · obtain ⟨g, cap, rfl, _, h3, h4⟩ := own_str h h0
    exact .inr ⟨g, cap, rfl, h3, World.block_lt_of_cell? W _ (h4 0 h0), h4⟩
end Go.Proofs.YtjminjliomffaaaGreatDoor

/- The reference's trial division: dominoref04.FactorsU, Factors. -/
namespace Go.Proofs.YtjminjliomffaaaGreatDoor
open Go.RowKit Go.Shelf Num
set_option maxRecDepth 20000
set_option linter.unusedVariables false
theorem Below.drewN (B : Nat) (w : World) (n : Nat) : Below B w (w.drewN n) := ⟨rfl, rfl, rfl, Nat.le_refl _, fun _ _ => rfl⟩
theorem SL.form {W : World} {v : Value} {L : List ByteArray} (h : SL W v L) : ∃ a c, v = .slice a L.length c ∧ Hid (∀ k (hk : k < L.length), ∃ b, a = some ⟨b, 0, none⟩ ∧ b < W.heap.size ∧ W.cell? ⟨b, k, none⟩ = some (.string L[k])) := by
  rcases h with ⟨rfl, rfl⟩ | ⟨b, c, rfl, h2, h3, h4⟩
  · exact ⟨none, 0, rfl, fun k hk => by simp at hk⟩
  · exact ⟨_, c, rfl, fun k hk => ⟨b, rfl, h3, h4 k hk⟩⟩
end Go.Proofs.YtjminjliomffaaaGreatDoor
