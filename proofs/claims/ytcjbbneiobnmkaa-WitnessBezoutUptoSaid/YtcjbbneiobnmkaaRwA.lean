import Derived.Test.YtcjbbneiobnmkaaWtA
import Derived.Test.YtcjbbneiobnmkaaR3d
import Derived.Test.YtcjbbneiobnmkaaRgA
import Derived.Test.YtcjbbneiobnmkaaWtC
/- The reference of layer 36: Product, formed, zero, exponents. -/
namespace Go.Proofs.Ytcjbbneiobnmkaa
open Go.RowKit Num
set_option maxRecDepth 20000
set_option linter.unusedVariables false
theorem validB_enc (n : Nat) : validB (enc n) = decide (blen n ≤ 128) := by
  by_cases h : blen n ≤ 128
  · rw [decide_eq_true h]; exact (IsN.mk' h).valid
  · rw [decide_eq_false h]
    rw [Bool.eq_false_iff]
    intro hv
    have := (isN_of_valid hv).le
    rw [nv_enc] at this
    exact h this
theorem make_sign (b : Int) (a : Nat) : (zb b && !(enc (b.natAbs * a)).toList.isEmpty) = zb (b * a) ∧ enc (b.natAbs * a) = zs (b * a) := by
  have e : b.natAbs * a = (b * a).natAbs := by rw [Int.natAbs_mul]; rfl
  have e2 : enc (b.natAbs * a) = zs (b * a) := by rw [e]; rfl
  refine ⟨?_, e2⟩
  rw [e2, zs_empty]
  unfold zb
  rcases Int.lt_trichotomy b 0 with h1 | h1 | h1
  · rcases Nat.eq_zero_or_pos a with h2 | h2
    · subst h2; simp
    · have := Int.mul_neg_of_neg_of_pos h1 (show (0 : Int) < a by omega)
      rw [decide_eq_true h1, decide_eq_true this, decide_eq_false (show ¬ b * a = 0 by omega)]; rfl
  · subst h1; simp
  · have : 0 ≤ b * a := Int.mul_nonneg (by omega) (by omega)
    rw [decide_eq_false (show ¬ b < 0 by omega), decide_eq_false (show ¬ b * a < 0 by omega)]; rfl
set_option maxHeartbeats 1000000 in
theorem rprod_any (ao : Option Addr) (c n : Nat) (l : List ByteArray) (w : World) (hl : NS w ao l) (hn : l.length = n) (h1 : n ≤ 30) (hv : ∀ x ∈ l, IsN x (nv x)) :
    Calls Try.prog 8 #[.slice ao n c] w fun e w' => e = .returned (.string (enc (pdL (l.map nv)))) ∧ Below w.heap.size w w' := by
  have HN := Lib.hid hn
  have HL := Lib.hid hl
  have HV := Lib.hid hv
  have HB : Hid (∀ k, k ≤ n → blen (pdL ((l.map nv).take k)) ≤ 4000) := fun k hk => by
    have h := pdL_blen (l := (l.map nv).take k) (c := 128) (fun x hx => by
      obtain ⟨y, hy, rfl⟩ := List.mem_map.1 (List.mem_of_mem_take hx)
      exact (hv y hy).le)
    have h2 : ((l.map nv).take k).length ≤ 30 := by rw [List.length_take, List.length_map]; omega
    omega
  clear hn hl hv
  go_enter Try.func8, Try.ntmps8
  go_wp2_with fail
  go_loopw [3, 4] (fun vo i wr => ∃ k : Nat, k ≤ n ∧ i = .int .i64 k ∧ vo = .string (enc (pdL ((l.map nv).take k))) ∧ Below w.heap.size w wr) (fun _ i _ => n - (intOf i).toNat)
  case atStart => exact ⟨0, by omega, rfl, by rw [lit1]; rfl, Below.refl _ _⟩
  case round =>
    obtain ⟨k, hk, rfl, rfl, hb⟩ := hrel
    by_cases hlt : k < n
    · have hkl : k < l.length := by rw [HN.out]; exact hlt
      obtain ⟨b, off, rfl, hc⟩ := HL.out k hkl
      have hst := pdL_take_succ (l.map nv) k (by simpa using hkl)
      rw [List.getElem_map] at hst
      have hx := HV.out _ (List.getElem_mem hkl)
      obtain ⟨X, hX⟩ : ∃ X, l[k] = X := ⟨_, rfl⟩
      rw [hX] at hc hst hx
      have hc2 := cellB_below hc hb (Nat.le_refl _)
      have HM := Lib.hid (fun w => refTimes_any (enc (pdL ((l.map nv).take k))) X _ (nv X) w rfl hx.eq (by rw [size_enc]; have := HB.out k hk; omega) (by have := hx.small; omega))
      rw [← hst] at HM
      clear hst hx hX hc
      go_wp2_with fail
      refine (HM.out _).mono ?_; rintro e w2 ⟨rfl, b2⟩
      have hb2 := hb.trans (b2.mono hb.size)
      go_wp2_with fail
      exact ⟨⟨k + 1, by omega, by go_num, rfl, hb2⟩, by simp [intOf]; omega⟩
    · obtain rfl : k = n := by omega
      have e1 : (l.map nv).take k = l.map nv := List.take_of_length_le (by rw [List.length_map, HN.out]; exact Nat.le_refl _)
      rw [e1]
      clear e1
      go_wp2_with fail
      go_ret
      exact ⟨rfl, hb⟩
end Go.Proofs.Ytcjbbneiobnmkaa

/- The reference of layer 36: exponents. -/
namespace Go.Proofs.Ytcjbbneiobnmkaa
open Go.RowKit Num
set_option maxRecDepth 20000
set_option linter.unusedVariables false
end Go.Proofs.Ytcjbbneiobnmkaa

/- The reference of layer 36: Exponents. -/
namespace Go.Proofs.Ytcjbbneiobnmkaa
open Go.RowKit Num
set_option maxRecDepth 20000
set_option linter.unusedVariables false
theorem all3 (u : ByteArray) (la ld : List ByteArray) (p : ByteArray → Bool) : (u :: (la ++ ld)).all p = (p u && (la.all p && ld.all p)) := by simp
end Go.Proofs.Ytcjbbneiobnmkaa
