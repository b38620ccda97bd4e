/- Contracts of the package natural: DivMod, Gcd, Bits, Bit. -/
import Derived.Test.YtdlbnioidfhhcaaGreatNatF
namespace Go.Proofs.YtdlbnioidfhhcaaGreat
open Go.RowKit Num
set_option maxRecDepth 20000

theorem divided_any (s t : ByteArray) (a b : Nat) (w : World) (hs : IsN s a) (ht : IsN t b) (h0 : 0 < b) :
    Calls Tryz.prog 84 #[.string s, .string t] w fun e w' => e = .returned (.tuple #[.string (enc (a / b)), .string (enc (a % b))]) ∧ Below w.heap.size w w' := by
  rcases Nat.lt_or_ge a b with h | h
  · exact divided_less s t a b w hs ht h
  · rcases Nat.lt_or_ge 8 s.size with h8 | h8
    · exact divided_long s t a b w hs ht h h0 h8
    · exact divided_short s t a b w hs ht h h0 h8

theorem toList_enc_nil {b : Nat} (h0 : 0 < b) : (enc b).toList.isEmpty = false := by
  rw [ByteArray.toList_eq]
  have := size_enc b
  have h2 := blen_eq_zero b
  cases h : (enc b).data.toList with
  | nil =>
    have : (enc b).size = 0 := by
      show (enc b).data.size = 0
      rw [← Array.length_toList, h]; rfl
    omega
  | cons x l => rfl
theorem IsN.notEmpty {t : ByteArray} {b : Nat} (ht : IsN t b) (h0 : 0 < b) : t.toList = [] ↔ False := by
  have h := toList_enc_nil h0
  rw [ht.eq]
  constructor
  · intro e; rw [e] at h; cases h
  · exact False.elim

theorem DivMod_any (s t : ByteArray) (a b : Nat) (w : World) (hs : IsN s a) (ht : IsN t b) (h0 : 0 < b) :
    Calls Tryz.prog 57 #[.string s, .string t] w fun e w' => e = .returned (.tuple #[.string (enc (a / b)), .string (enc (a % b)), .int .i64 0]) ∧ Below w.heap.size w w' := by
  have v1 := hs.valid
  have v2 := ht.valid
  have ne := (ht.notEmpty h0).1
  have ne' : t.toList.isEmpty = false := by rw [ht.eq]; exact toList_enc_nil h0
  have HS := Lib.hid hs; clear hs
  have HT := Lib.hid ht; clear ht
  go_enter Tryz.func57, Tryz.ntmps57
  go_wp2_with (first | (go_at_call 36; refine (Valid_any _ _).mono ?_; rintro e w' ⟨rfl, rfl⟩) | (go_at_call 84; refine (divided_any _ _ _ _ _ HS.out HT.out h0).mono ?_; rintro e w' ⟨rfl, hb⟩))
  go_ret3
  exact ⟨rfl, hb⟩
theorem DivMod_zero (s t : ByteArray) (a : Nat) (w : World) (hs : IsN s a) (ht : t = ⟨#[]⟩) :
    Calls Tryz.prog 57 #[.string s, .string t] w fun e w' => e = .returned (.tuple #[.string ⟨#[]⟩, .string ⟨#[]⟩, .int .i64 11]) ∧ w = w' := by
  subst ht
  have v1 := hs.valid
  have v2 : validB ⟨#[]⟩ = true := by decide
  clear hs
  go_enter Tryz.func57, Tryz.ntmps57
  go_wp2_with (go_at_call 36; refine (Valid_any _ _).mono ?_; rintro e w' ⟨rfl, rfl⟩)
  go_ret3
  exact ⟨rfl, rfl⟩

/-- the number in a slot that holds a string -/
def strNum : Value → Nat | .string s => Num.nv s | _ => 0
theorem enc_zero : enc 0 = ⟨#[]⟩ := rfl
theorem notEmpty_enc {b : Nat} (h0 : 0 < b) : (enc b).toList = [] ↔ False := by
  have h := toList_enc_nil h0
  constructor
  · intro e; rw [e] at h; cases h
  · exact False.elim
theorem Gcd_any (s t : ByteArray) (a b : Nat) (w : World) (hs : IsN s a) (ht : IsN t b) :
    Calls Tryz.prog 113 #[.string s, .string t] w fun e w' => e = .returned (.tuple #[.string (enc (Nat.gcd a b)), .int .i64 0]) ∧ Below w.heap.size w w' := by
  have v1 := hs.valid
  have v2 := ht.valid
  have HS := Lib.hid hs
  have HT := Lib.hid ht
  clear hs ht
  go_enter Tryz.func113, Tryz.ntmps113
  go_wp2_with (go_at_call 36; refine (Valid_any _ _).mono ?_; rintro e w' ⟨rfl, rfl⟩)
  go_loopw [0, 1] (fun p q wr => ∃ x y : Nat, p = .string (enc x) ∧ q = .string (enc y) ∧ Hid (Nat.gcd x y = Nat.gcd a b) ∧ blen x ≤ 128 ∧ blen y ≤ 128 ∧ Below w.heap.size w wr) (fun _ q _ => strNum q)
  case atStart => exact ⟨a, b, by rw [HS.out.eq], by rw [HT.out.eq], rfl, HS.out.le, HT.out.le, Below.refl _ _⟩
  case round =>
    obtain ⟨x, y, rfl, rfl, hg, hx, hy, hb⟩ := hrel
    by_cases h0 : y = 0
    · subst h0
      rw [enc_zero]
      go_wp2_with fail
      go_ret2
      refine ⟨ret_two ?_ rfl, hb⟩
      rw [← hg.out, Nat.gcd_zero_right]
    · have hp : 0 < y := by omega
      have ne := (notEmpty_enc hp).1
      have ne' := toList_enc_nil hp
      go_wp2_with (go_at_call 84; (with_reducible refine (divided_any _ _ _ _ _ (IsN.mk' hx) (IsN.mk' hy) hp).mono ?_); rintro e w' ⟨rfl, hb2⟩)
      go_roundw
      case rel => exact ⟨y, x % y, rfl, rfl, show _ = _ from by rw [← hg.out, Nat.gcd_comm x y, Nat.gcd_rec y x, Nat.gcd_comm], hy, Nat.le_trans (blen_mono (Nat.le_of_lt (Nat.mod_lt x hp))) hy, hb.trans (hb2.mono hb.size)⟩
      case measure => simp only [strNum, nv_enc]; exact Nat.mod_lt x hp
end Go.Proofs.YtdlbnioidfhhcaaGreat
