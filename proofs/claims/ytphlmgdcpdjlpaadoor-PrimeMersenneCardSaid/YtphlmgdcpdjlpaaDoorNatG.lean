/- Contracts of the package natural: DivMod, Gcd, Bits, Bit. -/
import Derived.Test.YtphlmgdcpdjlpaaDoorNatF
namespace Go.Proofs.YtphlmgdcpdjlpaaDoor
open Go.RowKit Num
set_option maxRecDepth 20000

theorem divided_any (s t : ByteArray) (a b : Nat) (w : World) (hs : IsN s a) (ht : IsN t b) (h0 : 0 < b) :
    Calls Tryd.prog 52 #[.string s, .string t] w fun e w' => e = .returned (.tuple #[.string (enc (a / b)), .string (enc (a % b))]) ∧ Below w.heap.size w w' := by
  rcases Nat.lt_or_ge a b with h | h
  · exact divided_less s t a b w hs ht h
  · rcases Nat.lt_or_ge 8 s.size with h8 | h8
    · exact divided_long s t a b w hs ht h h0 h8
    · exact divided_short s t a b w hs ht h h0 h8

theorem toList_enc_nil {b : Nat} (h0 : 0 < b) : (enc b).toList.isEmpty = false := by
  rw [ByteArray.toList_eq]
  have := size_enc b
  have h2 := blen_eq_zero b
  cases h : (enc b).data.toList with
  | nil =>
    have : (enc b).size = 0 := by
      show (enc b).data.size = 0
      rw [← Array.length_toList, h]; rfl
    omega
  | cons x l => rfl
theorem IsN.notEmpty {t : ByteArray} {b : Nat} (ht : IsN t b) (h0 : 0 < b) : t.toList = [] ↔ False := by
  have h := toList_enc_nil h0
  rw [ht.eq]
  constructor
  · intro e; rw [e] at h; cases h
  · exact False.elim

theorem DivMod_any (s t : ByteArray) (a b : Nat) (w : World) (hs : IsN s a) (ht : IsN t b) (h0 : 0 < b) :
    Calls Tryd.prog 35 #[.string s, .string t] w fun e w' => e = .returned (.tuple #[.string (enc (a / b)), .string (enc (a % b)), .int .i64 0]) ∧ Below w.heap.size w w' := by
  have v1 := hs.valid
  have v2 := ht.valid
  have ne := (ht.notEmpty h0).1
  have ne' : t.toList.isEmpty = false := by rw [ht.eq]; exact toList_enc_nil h0
  have HS := Lib.hid hs; clear hs
  have HT := Lib.hid ht; clear ht
  go_enter Tryd.func35, Tryd.ntmps35
  go_wp2_with (first | (go_at_call 30; refine (Valid_any _ _).mono ?_; rintro e w' ⟨rfl, rfl⟩) | (go_at_call 52; refine (divided_any _ _ _ _ _ HS.out HT.out h0).mono ?_; rintro e w' ⟨rfl, hb⟩))
  go_ret3
  exact ⟨rfl, hb⟩
theorem DivMod_zero (s t : ByteArray) (a : Nat) (w : World) (hs : IsN s a) (ht : t = ⟨#[]⟩) :
    Calls Tryd.prog 35 #[.string s, .string t] w fun e w' => e = .returned (.tuple #[.string ⟨#[]⟩, .string ⟨#[]⟩, .int .i64 11]) ∧ w = w' := by
  subst ht
  have v1 := hs.valid
  have v2 : validB ⟨#[]⟩ = true := by decide
  clear hs
  go_enter Tryd.func35, Tryd.ntmps35
  go_wp2_with (go_at_call 30; refine (Valid_any _ _).mono ?_; rintro e w' ⟨rfl, rfl⟩)
  go_ret3
  exact ⟨rfl, rfl⟩

/-- the number in a slot that holds a string -/
def strNum : Value → Nat | .string s => Num.nv s | _ => 0
theorem enc_zero : enc 0 = ⟨#[]⟩ := rfl
theorem notEmpty_enc {b : Nat} (h0 : 0 < b) : (enc b).toList = [] ↔ False := by
  have h := toList_enc_nil h0
  constructor
  · intro e; rw [e] at h; cases h
  · exact False.elim
end Go.Proofs.YtphlmgdcpdjlpaaDoor
