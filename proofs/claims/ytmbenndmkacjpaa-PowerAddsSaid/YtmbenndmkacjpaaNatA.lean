/- Contracts of the small functions of the package natural: digit, Valid, trimmed, fitting. -/
import Derived.Test.YtmbenndmkacjpaaProg
import Derived.Test.YtmbenndmkacjpaaNum
import Derived.WalkKit
import Derived.WalkSpells
import Derived.WalkLawsBesides
import Derived.Lib.Hide
namespace Go.Proofs.Ytmbenndmkacjpaa
open Go.RowKit Num

theorem ret_int {k : IntKind} {a b : Int} (h : a = b) : Ending.returned (.int k a) = .returned (.int k b) := by rw [h]
theorem ret_str {a b : ByteArray} (h : a = b) : Ending.returned (.string a) = .returned (.string b) := by rw [h]
theorem ret_bool {a b : Bool} (h : a = b) : Ending.returned (.bool a) = .returned (.bool b) := by rw [h]
theorem wrap64_u8 (b : UInt8) : wrap64 (b.toNat : Int) = b.toNat := by
  have := b.toNat_lt
  exact IntWalk.wrap64_in _ ⟨by omega, by omega⟩

/-- digit: the digit of the weight 256^i -/
theorem digit_any (s : ByteArray) (i : Int) (w : World) (h0 : 0 ≤ i) (hs : s.size ≤ 1000000) :
    Calls Try.prog 41 #[.string s, .int .i64 i] w fun e w' => e = .returned (.int .i64 (dg (nv s) i.toNat)) ∧ w = w' := by
  by_cases h : i < s.size
  · have e := nv_digit s i.toNat (by omega)
    have e2 : ((s.size : Int) - 1 - i).toNat = s.size - 1 - i.toNat := by omega
    have H := Lib.hid e; clear e
    have H2 := Lib.hid e2; clear e2
    go_enter Try.func41, Try.ntmps41
    go_wp2
    go_ret
    refine ⟨ret_int ?_, rfl⟩
    rw [wrap64_u8]
    simp only [H2.out, H.out, dg]
  · have e := nv_digit_past s i.toNat (by omega)
    have H := Lib.hid e; clear e
    go_enter Try.func41, Try.ntmps41
    go_wp2
    go_ret
    refine ⟨ret_int ?_, rfl⟩
    simp only [H.out, dg]; rfl

/-- Valid: at most 128 bytes, the first one not 0 -/
def validB (s : ByteArray) : Bool := decide (s.size ≤ 128 ∧ Canon s)
theorem canon_pos {s : ByteArray} (hp : 0 < s.size) : Canon s ↔ (s[0]'hp).toNat ≠ 0 := by
  unfold Canon
  have e : s.data.toList.head? = some s[0] := by
    rw [List.head?_eq_getElem?]; simp; exact Array.getElem?_eq_getElem hp
  rw [e]
  simp [← UInt8.toNat_inj]
theorem canon_empty {s : ByteArray} (hp : s.size = 0) : Canon s := by
  unfold Canon
  have : s.data = #[] := by apply Array.eq_empty_of_size_eq_zero; exact hp
  simp [this]
theorem Valid_any (s : ByteArray) (w : World) :
    Calls Try.prog 10 #[.string s] w fun e w' => e = .returned (.bool (validB s)) ∧ w = w' := by
  by_cases h : s.size ≤ 128
  · by_cases h0 : s.size = 0
    · go_enter Try.func10, Try.ntmps10
      go_wp2
      go_ret
      exact ⟨ret_bool (by simp [validB, h0, canon_empty h0]), rfl⟩
    · have hp : 0 < s.size := by omega
      go_enter Try.func10, Try.ntmps10
      go_wp2
      go_ret
      refine ⟨ret_bool ?_, rfl⟩
      have := canon_pos hp
      rw [Bool.eq_iff_iff]; simp [validB, h, this]
      intro e; subst e; exact absurd rfl h0
  · go_enter Try.func10, Try.ntmps10
    go_wp2
    go_ret
    exact ⟨ret_bool (by simp [validB, h]), rfl⟩

/-- a canonical string of at most 128 bytes -/
structure IsN (s : ByteArray) (a : Nat) : Prop where
  eq : s = enc a
  le : blen a ≤ 128
theorem IsN.nv {s : ByteArray} {a : Nat} (h : IsN s a) : nv s = a := by rw [h.eq, nv_enc]
theorem IsN.size {s : ByteArray} {a : Nat} (h : IsN s a) : s.size = blen a := by rw [h.eq, size_enc]
theorem IsN.small {s : ByteArray} {a : Nat} (h : IsN s a) : s.size ≤ 128 := by rw [h.size]; exact h.le
theorem IsN.canon {s : ByteArray} {a : Nat} (h : IsN s a) : Canon s := by rw [h.eq]; exact canon_enc a
theorem IsN.valid {s : ByteArray} {a : Nat} (h : IsN s a) : validB s = true := by simp [validB, h.small, h.canon]
theorem IsN.mk' {a : Nat} (h : blen a ≤ 128) : IsN (enc a) a := ⟨rfl, h⟩
theorem IsN.lt {s : ByteArray} {a : Nat} (h : IsN s a) : a < 256 ^ 128 := (blen_le_iff a 128).1 h.le
theorem isN_of_valid {s : ByteArray} (h : validB s = true) : IsN s (Num.nv s) := by
  simp [validB] at h
  exact ⟨(enc_nv h.2).symm, by rw [← size_enc, enc_nv h.2]; exact h.1⟩
theorem Valid_yes (s : ByteArray) (a : Nat) (w : World) (h : IsN s a) :
    Calls Try.prog 10 #[.string s] w fun e w' => e = .returned (.bool true) ∧ w = w' :=
  (Valid_any s w).mono fun _ _ ⟨he, hw⟩ => ⟨by rw [he, h.valid], hw⟩

/-- a number, or ErrLong -/
def fitS (n : Nat) : ByteArray := if blen n ≤ 128 then enc n else ⟨#[]⟩
def fitE (n : Nat) : Int := if blen n ≤ 128 then 0 else 5
theorem fitS_ok {n : Nat} (h : blen n ≤ 128) : fitS n = enc n := if_pos h
theorem fitE_ok {n : Nat} (h : blen n ≤ 128) : fitE n = 0 := if_pos h
theorem ret_two {k : IntKind} {a b : ByteArray} {x y : Int} (h : a = b) (g : x = y) : Ending.returned (.tuple #[.string a, .int k x]) = .returned (.tuple #[.string b, .int k y]) := by rw [h, g]
theorem fitting_any (n : Nat) (w : World) (hn : blen n ≤ 1000000) :
    Calls Try.prog 44 #[.string (enc n)] w fun e w' => e = .returned (.tuple #[.string (fitS n), .int .i64 (fitE n)]) ∧ w = w' := by
  have hs := size_enc n
  by_cases h : blen n ≤ 128
  · rw [fitS_ok h, fitE_ok h]
    rw [← hs] at h hn
    have HS := Lib.hid hs; clear hs
    go_enter Try.func44, Try.ntmps44
    go_wp2
    go_ret2
    exact ⟨rfl, rfl⟩
  · have e1 : fitS n = ⟨#[]⟩ := if_neg h
    have e2 : fitE n = 5 := if_neg h
    rw [e1, e2]; clear e1 e2
    rw [← hs] at h hn
    have HS := Lib.hid hs; clear hs
    go_enter Try.func44, Try.ntmps44
    go_wp2
    go_ret2
    exact ⟨rfl, rfl⟩

/-- bytes lie at an address -/
def BytesAt (w : World) (b off : Nat) (l : List UInt8) : Prop := ∀ j (h : j < l.length), w.cell? ⟨b, off + j, none⟩ = some (.int .u8 (l[j].toNat : Int))
theorem BytesAt.tail {w : World} {b off : Nat} {c : UInt8} {l : List UInt8} (h : BytesAt w b off (c :: l)) : BytesAt w b (off + 1) l := by
  intro j hj
  have := h (j + 1) (by simp; omega)
  simpa [Nat.add_assoc, Nat.add_comm 1 j] using this

/-- the length of a slice, for measures -/
def slen : Value → Nat | .slice _ n _ => n | _ => 0
theorem conv_back (w : World) (b o c : Nat) (r : List UInt8) (h : BytesAt w b o r) :
    (convert 69 22 (.slice (some ⟨b, o, none⟩) r.length c)).run Try.prog w = .ok (.string ⟨r.toArray⟩) w :=
  run_convert_bytes_back w 69 22 5 ⟨b, o, none⟩ c r Try.underlying69 Try.underlying5 Try.underlying22 (by
    intro j hj
    rw [show (⟨b, o, none⟩ : Addr).add j = ⟨b, o + j, none⟩ from by unfold Addr.add; simp]
    exact h j hj)

theorem trimmed_any (b off cap : Nat) (l : List UInt8) (w : World) (hc : l.length ≤ cap) (hc2 : cap ≤ 2000000) (hb : BytesAt w b off l) :
    Calls Try.prog 37 #[.slice (some ⟨b, off, none⟩) l.length cap] w fun e w' => e = .returned (.string (enc (nvL l))) ∧ w = w' := by
  go_enter Try.func37, Try.ntmps37
  go_wp2
  go_loop [0] (fun v => ∃ (r : List UInt8) (o c : Nat), r.length ≤ c ∧ c ≤ 2000000 ∧ Hid (BytesAt w b o r) ∧ Hid (nvL r = nvL l) ∧ v = .slice (some ⟨b, o, none⟩) r.length c) (fun v => slen v)
  case atStart => exact ⟨l, off, cap, hc, hc2, hb, rfl, rfl⟩
  case round =>
    obtain ⟨r, o, c, hrc, hcc, hbr, hv, rfl⟩ := hrel
    clear hb hc hc2
    have hcv := conv_back w b o c r hbr.out
    cases r with
    | nil =>
      simp only [List.length_nil] at hcv
      go_wp2
      go_ret
      exact ⟨ret_str (by rw [← hv.out]; rfl), rfl⟩
    | cons x r =>
      have hc0 : w.cell? ⟨b, o, none⟩ = some (.int .u8 (x.toNat : Int)) := hbr.out 0 (by simp)
      simp only [List.length_cons] at hcv hrc
      by_cases hx : x = 0
      · subst hx
        have hc0' : w.cell? ⟨b, o, none⟩ = some (.int .u8 0) := hc0
        clear hc0 hcv
        have hb1 : Hid (BytesAt w b (o + 1) r) := hbr.out.tail
        have hv1 : Hid (nvL r = nvL l) := by rw [← hv.out, nvL_cons]; simp [Hid]
        by_cases hc1 : c = 1
        · subst hc1
          obtain rfl : r = [] := by cases r with | nil => rfl | cons y r => simp at hrc
          go_wp2
          go_round
          case rel => exact ⟨[], o, 0, by simp, by omega, fun j hj => by simp at hj, hv1, rfl⟩
          case measure => simp [slen]
        · go_wp2
          go_round
          case rel => exact ⟨r, o + 1, c - 1, by omega, by omega, hb1, hv1, rfl⟩
          case measure => simp [slen]
      · have hx' : ((x.toNat : Int) == 0) = false := by
          rw [beq_eq_false_iff_ne]; intro e
          exact hx (UInt8.toNat_inj.1 (by simpa using e))
        go_wp2
        go_ret
        refine ⟨ret_str ?_, rfl⟩
        rw [← hv.out]; unfold enc; rw [encL_nvL _ (by simp [hx])]
end Go.Proofs.Ytmbenndmkacjpaa
