import Derived.Test.YtdlbnioidfhhcaaGreatProg
import Derived.Test.YtdlbnioidfhhcaaGreatNum
import Derived.WalkKit
import Derived.WalkSpells
import Derived.WalkLawsBesides
import Derived.Lib.Hide
import Derived.Test.YtdlbnioidfhhcaaGreatArr
import Derived.Lib.MinMax
/- Contracts of the small functions of the package natural: digit, Valid, trimmed, fitting. -/
namespace Go.Proofs.YtdlbnioidfhhcaaGreat
open Go.RowKit Num

theorem ret_int {k : IntKind} {a b : Int} (h : a = b) : Ending.returned (.int k a) = .returned (.int k b) := by rw [h]
theorem ret_str {a b : ByteArray} (h : a = b) : Ending.returned (.string a) = .returned (.string b) := by rw [h]
theorem ret_bool {a b : Bool} (h : a = b) : Ending.returned (.bool a) = .returned (.bool b) := by rw [h]
theorem wrap64_u8 (b : UInt8) : wrap64 (b.toNat : Int) = b.toNat := by
  have := b.toNat_lt
  exact IntWalk.wrap64_in _ ⟨by omega, by omega⟩

/-- digit: the digit of the weight 256^i -/
theorem digit_any (s : ByteArray) (i : Int) (w : World) (h0 : 0 ≤ i) (hs : s.size ≤ 1000000) :
    Calls Tryz.prog 83 #[.string s, .int .i64 i] w fun e w' => e = .returned (.int .i64 (dg (nv s) i.toNat)) ∧ w = w' := by
  by_cases h : i < s.size
  · have e := nv_digit s i.toNat (by omega)
    have e2 : ((s.size : Int) - 1 - i).toNat = s.size - 1 - i.toNat := by omega
    have H := Lib.hid e; clear e
    have H2 := Lib.hid e2; clear e2
    go_enter Tryz.func83, Tryz.ntmps83
    go_wp2
    go_ret
    refine ⟨ret_int ?_, rfl⟩
    rw [wrap64_u8]
    simp only [H2.out, H.out, dg]
  · have e := nv_digit_past s i.toNat (by omega)
    have H := Lib.hid e; clear e
    go_enter Tryz.func83, Tryz.ntmps83
    go_wp2
    go_ret
    refine ⟨ret_int ?_, rfl⟩
    simp only [H.out, dg]; rfl

/-- Valid: at most 128 bytes, the first one not 0 -/
def validB (s : ByteArray) : Bool := decide (s.size ≤ 128 ∧ Canon s)
theorem canon_pos {s : ByteArray} (hp : 0 < s.size) : Canon s ↔ (s[0]'hp).toNat ≠ 0 := by
  unfold Canon
  have e : s.data.toList.head? = some s[0] := by
    rw [List.head?_eq_getElem?]; simp; exact Array.getElem?_eq_getElem hp
  rw [e]
  simp [← UInt8.toNat_inj]
theorem canon_empty {s : ByteArray} (hp : s.size = 0) : Canon s := by
  unfold Canon
  have : s.data = #[] := by apply Array.eq_empty_of_size_eq_zero; exact hp
  simp [this]
theorem Valid_any (s : ByteArray) (w : World) :
    Calls Tryz.prog 36 #[.string s] w fun e w' => e = .returned (.bool (validB s)) ∧ w = w' := by
  by_cases h : s.size ≤ 128
  · by_cases h0 : s.size = 0
    · go_enter Tryz.func36, Tryz.ntmps36
      go_wp2
      go_ret
      exact ⟨ret_bool (by simp [validB, h0, canon_empty h0]), rfl⟩
    · have hp : 0 < s.size := by omega
      go_enter Tryz.func36, Tryz.ntmps36
      go_wp2
      go_ret
      refine ⟨ret_bool ?_, rfl⟩
      have := canon_pos hp
      rw [Bool.eq_iff_iff]; simp [validB, h, this]
      intro e; subst e; exact absurd rfl h0
  · go_enter Tryz.func36, Tryz.ntmps36
    go_wp2
    go_ret
    exact ⟨ret_bool (by simp [validB, h]), rfl⟩

/-- a canonical string of at most 128 bytes -/
structure IsN (s : ByteArray) (a : Nat) : Prop where
  eq : s = enc a
  le : blen a ≤ 128
theorem IsN.nv {s : ByteArray} {a : Nat} (h : IsN s a) : nv s = a := by rw [h.eq, nv_enc]
theorem IsN.size {s : ByteArray} {a : Nat} (h : IsN s a) : s.size = blen a := by rw [h.eq, size_enc]
theorem IsN.small {s : ByteArray} {a : Nat} (h : IsN s a) : s.size ≤ 128 := by rw [h.size]; exact h.le
theorem IsN.canon {s : ByteArray} {a : Nat} (h : IsN s a) : Canon s := by rw [h.eq]; exact canon_enc a
theorem IsN.valid {s : ByteArray} {a : Nat} (h : IsN s a) : validB s = true := by simp [validB, h.small, h.canon]
theorem IsN.mk' {a : Nat} (h : blen a ≤ 128) : IsN (enc a) a := ⟨rfl, h⟩
theorem IsN.lt {s : ByteArray} {a : Nat} (h : IsN s a) : a < 256 ^ 128 := (blen_le_iff a 128).1 h.le
theorem isN_of_valid {s : ByteArray} (h : validB s = true) : IsN s (Num.nv s) := by
  simp [validB] at h
  exact ⟨(enc_nv h.2).symm, by rw [← size_enc, enc_nv h.2]; exact h.1⟩
theorem Valid_yes (s : ByteArray) (a : Nat) (w : World) (h : IsN s a) :
    Calls Tryz.prog 36 #[.string s] w fun e w' => e = .returned (.bool true) ∧ w = w' :=
  (Valid_any s w).mono fun _ _ ⟨he, hw⟩ => ⟨by rw [he, h.valid], hw⟩

/-- a number, or ErrLong -/
def fitS (n : Nat) : ByteArray := if blen n ≤ 128 then enc n else ⟨#[]⟩
def fitE (n : Nat) : Int := if blen n ≤ 128 then 0 else 5
theorem fitS_ok {n : Nat} (h : blen n ≤ 128) : fitS n = enc n := if_pos h
theorem fitE_ok {n : Nat} (h : blen n ≤ 128) : fitE n = 0 := if_pos h
theorem ret_two {k : IntKind} {a b : ByteArray} {x y : Int} (h : a = b) (g : x = y) : Ending.returned (.tuple #[.string a, .int k x]) = .returned (.tuple #[.string b, .int k y]) := by rw [h, g]
theorem fitting_any (n : Nat) (w : World) (hn : blen n ≤ 1000000) :
    Calls Tryz.prog 132 #[.string (enc n)] w fun e w' => e = .returned (.tuple #[.string (fitS n), .int .i64 (fitE n)]) ∧ w = w' := by
  have hs := size_enc n
  by_cases h : blen n ≤ 128
  · rw [fitS_ok h, fitE_ok h]
    rw [← hs] at h hn
    have HS := Lib.hid hs; clear hs
    go_enter Tryz.func132, Tryz.ntmps132
    go_wp2
    go_ret2
    exact ⟨rfl, rfl⟩
  · have e1 : fitS n = ⟨#[]⟩ := if_neg h
    have e2 : fitE n = 5 := if_neg h
    rw [e1, e2]; clear e1 e2
    rw [← hs] at h hn
    have HS := Lib.hid hs; clear hs
    go_enter Tryz.func132, Tryz.ntmps132
    go_wp2
    go_ret2
    exact ⟨rfl, rfl⟩

/-- bytes lie at an address -/
def BytesAt (w : World) (b off : Nat) (l : List UInt8) : Prop := ∀ j (h : j < l.length), w.cell? ⟨b, off + j, none⟩ = some (.int .u8 (l[j].toNat : Int))
theorem BytesAt.tail {w : World} {b off : Nat} {c : UInt8} {l : List UInt8} (h : BytesAt w b off (c :: l)) : BytesAt w b (off + 1) l := by
  intro j hj
  have := h (j + 1) (by simp; omega)
  simpa [Nat.add_assoc, Nat.add_comm 1 j] using this

/-- the length of a slice, for measures -/
def slen : Value → Nat | .slice _ n _ => n | _ => 0
theorem conv_back (w : World) (b o c : Nat) (r : List UInt8) (h : BytesAt w b o r) :
    (convert 115 22 (.slice (some ⟨b, o, none⟩) r.length c)).run Tryz.prog w = .ok (.string ⟨r.toArray⟩) w :=
  run_convert_bytes_back w 115 22 5 ⟨b, o, none⟩ c r Tryz.underlying115 Tryz.underlying5 Tryz.underlying22 (by
    intro j hj
    rw [show (⟨b, o, none⟩ : Addr).add j = ⟨b, o + j, none⟩ from by unfold Addr.add; simp]
    exact h j hj)

theorem trimmed_any (b off cap : Nat) (l : List UInt8) (w : World) (hc : l.length ≤ cap) (hc2 : cap ≤ 2000000) (hb : BytesAt w b off l) :
    Calls Tryz.prog 58 #[.slice (some ⟨b, off, none⟩) l.length cap] w fun e w' => e = .returned (.string (enc (nvL l))) ∧ w = w' := by
  go_enter Tryz.func58, Tryz.ntmps58
  go_wp2
  go_loop [0] (fun v => ∃ (r : List UInt8) (o c : Nat), r.length ≤ c ∧ c ≤ 2000000 ∧ Hid (BytesAt w b o r) ∧ Hid (nvL r = nvL l) ∧ v = .slice (some ⟨b, o, none⟩) r.length c) (fun v => slen v)
  case atStart => exact ⟨l, off, cap, hc, hc2, hb, rfl, rfl⟩
  case round =>
    obtain ⟨r, o, c, hrc, hcc, hbr, hv, rfl⟩ := hrel
    clear hb hc hc2
    have hcv := conv_back w b o c r hbr.out
    cases r with
    | nil =>
      simp only [List.length_nil] at hcv
      go_wp2
      go_ret
      exact ⟨ret_str (by rw [← hv.out]; rfl), rfl⟩
    | cons x r =>
      have hc0 : w.cell? ⟨b, o, none⟩ = some (.int .u8 (x.toNat : Int)) := hbr.out 0 (by simp)
      simp only [List.length_cons] at hcv hrc
      by_cases hx : x = 0
      · subst hx
        have hc0' : w.cell? ⟨b, o, none⟩ = some (.int .u8 0) := hc0
        clear hc0 hcv
        have hb1 : Hid (BytesAt w b (o + 1) r) := hbr.out.tail
        have hv1 : Hid (nvL r = nvL l) := by rw [← hv.out, nvL_cons]; simp [Hid]
        by_cases hc1 : c = 1
        · subst hc1
          obtain rfl : r = [] := by cases r with | nil => rfl | cons y r => simp at hrc
          go_wp2
          go_round
          case rel => exact ⟨[], o, 0, by simp, by omega, fun j hj => by simp at hj, hv1, rfl⟩
          case measure => simp [slen]
        · go_wp2
          go_round
          case rel => exact ⟨r, o + 1, c - 1, by omega, by omega, hb1, hv1, rfl⟩
          case measure => simp [slen]
      · have hx' : ((x.toNat : Int) == 0) = false := by
          rw [beq_eq_false_iff_ne]; intro e
          exact hx (UInt8.toNat_inj.1 (by simpa using e))
        go_wp2
        go_ret
        refine ⟨ret_str ?_, rfl⟩
        rw [← hv.out]; unfold enc; rw [encL_nvL _ (by simp [hx])]
end Go.Proofs.YtdlbnioidfhhcaaGreat

/- Contracts of the package natural: Add, Sub. -/
namespace Go.Proofs.YtdlbnioidfhhcaaGreat
set_option maxRecDepth 20000
open Go.RowKit Num

theorem info_u8 : (Tryz.prog.info? 5).map (fun i => (i.zero, i.size, i.bytes)) = some (some (.int .u8 0), 1, 1) := by kernel_rfl
theorem info_int : (Tryz.prog.info? 3).map (fun i => (i.zero, i.size, i.bytes)) = some (some (.int .i64 0), 1, 8) := by kernel_rfl


/-- the first k digits of n are written into a row of N bytes -/
def Filled (N n k : Nat) (f : Nat → Int) : Prop := ∀ j, j < N → f j = if N - 1 - j < k then dg n (N - 1 - j) else 0
theorem Filled.zero (N n : Nat) : Filled N n 0 (fun _ => 0) := fun j _ => by simp
theorem Filled.step {N n k : Nat} {f : Nat → Int} (h : Filled N n k f) (hk : k < N) {i : Nat} (hi : i = N - 1 - k) {v : Int} (hv : v = dg n k) : Filled N n (k + 1) (upd f i v) := by
  intro j hj
  by_cases e : j = i
  · rw [e, upd_same, if_pos (by omega), hv]; congr 1; omega
  · rw [upd_other _ _ e, h j hj]
    by_cases e2 : N - 1 - j < k
    · rw [if_pos e2, if_pos (by omega)]
    · rw [if_neg e2, if_neg (by omega)]
theorem Filled.done {N n : Nat} {f : Nat → Int} (h : Filled N n N f) : ∀ j, j < N → f j = dg n (N - 1 - j) := fun j hj => by rw [h j hj, if_pos (by omega)]

/-- the carry into digit i of a sum -/
def car (a b i : Nat) : Int := ((a + b) / 256 ^ i : Nat) - (a / 256 ^ i : Nat) - (b / 256 ^ i : Nat)
theorem car_zero (a b : Nat) : car a b 0 = 0 := by simp [car]; omega
theorem car_step (a b i : Nat) : (car a b i + (dg a i + dg b i)) % 256 = dg (a + b) i ∧ (car a b i + (dg a i + dg b i)) / 256 = car a b (i + 1) := by
  unfold car dg
  rw [Nat.pow_succ, ← Nat.div_div_eq_div_mul, ← Nat.div_div_eq_div_mul, ← Nat.div_div_eq_div_mul]
  generalize (a + b) / 256 ^ i = S; generalize a / 256 ^ i = A; generalize b / 256 ^ i = C
  omega
theorem car_bound (a b i : Nat) : 0 ≤ car a b i ∧ car a b i ≤ 1 := by
  unfold car
  have hp : 0 < 256 ^ i := Nat.pow_pos (by omega)
  have h1 := Nat.div_add_mod a (256 ^ i)
  have h2 := Nat.div_add_mod b (256 ^ i)
  have h3 := Nat.mod_lt a hp
  have h4 := Nat.mod_lt b hp
  have h5 : a / 256 ^ i + b / 256 ^ i ≤ (a + b) / 256 ^ i := by
    rw [Nat.le_div_iff_mul_le hp, Nat.mul_comm, Nat.mul_add]; omega
  have h6 : (a + b) / 256 ^ i < a / 256 ^ i + b / 256 ^ i + 2 := by
    rw [Nat.div_lt_iff_lt_mul hp, Nat.mul_comm, Nat.mul_add, Nat.mul_add]; omega
  omega

theorem nvL_digits (l : List UInt8) (n : Nat) (hn : n < 256 ^ l.length) (h : ∀ j (hj : j < l.length), (l[j].toNat : Int) = dg n (l.length - 1 - j)) : nvL l = n := by
  have e : l = bytesL l.length n := by
    apply List.ext_getElem
    · rw [length_bytesL]
    · intro j h1 h2
      have := h j h1
      simp only [bytesL, List.getElem_map, List.getElem_range]
      apply UInt8.toNat_inj.1
      rw [UInt8.toNat_ofNat']
      unfold dg at this
      omega
  have := nvL_bytesL l.length n
  rw [← e, Nat.mod_eq_of_lt hn] at this
  exact this
theorem trimmed_arr' (w : World) (b N n : Nat) (f : Nat → Int) (T : TypeId) (ha : Arr w b T .u8 N f) (hN : N ≤ 1000000) (hf : ∀ j, j < N → f j = dg n (N - 1 - j)) (hn : n < 256 ^ N) :
    Calls Tryz.prog 58 #[.slice (some ⟨b, 0, none⟩) N N] w fun e w' => e = .returned (.string (enc n)) ∧ w = w' := by
  have hl := length_bytesL N n
  have hb : BytesAt w b 0 (bytesL N n) := by
    intro j hj
    rw [hl] at hj
    rw [Nat.zero_add, ha.cell hj, hf j hj]
    simp [bytesL, dg]
  have := trimmed_any b 0 N (bytesL N n) w (by omega) (by omega) hb
  rw [hl, nvL_bytesL, Nat.mod_eq_of_lt hn] at this
  exact this
theorem trimmed_arr (w : World) (b N n : Nat) (f : Nat → Int) (ha : Arr w b 5 .u8 N f) (hN : N ≤ 1000000) (hf : ∀ j, j < N → f j = dg n (N - 1 - j)) (hn : n < 256 ^ N) :
    Calls Tryz.prog 58 #[.slice (some ⟨b, 0, none⟩) N N] w fun e w' => e = .returned (.string (enc n)) ∧ w = w' :=
  trimmed_arr' w b N n f _ ha hN hf hn

theorem Add_any (s t : ByteArray) (a b : Nat) (w : World) (hs : IsN s a) (ht : IsN t b) :
    Calls Tryz.prog 117 #[.string s, .string t] w fun e w' => e = .returned (.tuple #[.string (fitS (a + b)), .int .i64 (fitE (a + b))]) ∧ Below w.heap.size w w' := by
  have z1 := hs.small
  have z2 := ht.small
  have v1 := hs.valid
  have v2 := ht.valid
  have HS := Lib.hid hs; clear hs
  have HT := Lib.hid ht; clear ht
  obtain ⟨i0, hi, hz0, hz1, hz2⟩ := info_parts info_u8
  obtain ⟨m, hmx, m1, m2, m3⟩ : ∃ m : Nat, max (s.size : Int) (t.size : Int) = m ∧ s.size ≤ m ∧ t.size ≤ m ∧ m ≤ 128 := ⟨max s.size t.size, by omega, by omega, by omega, by omega⟩
  go_enter Tryz.func117, Tryz.ntmps117
  go_wp2_with (first | (go_at_call 36; refine (Valid_any _ _).mono ?_; rintro e w' ⟨rfl, rfl⟩) | (at_make; refine wpList_make_arr _ rfl _ _ _ rfl 5 i0 .u8 1 Tryz.underlying115 hi hz0 hz1 hz2 _ _ _ _ (m + 1) rfl rfl ?_ ?_ ?_ ?_ ?_ <;> first | (intro w1 ha hb hsz) | omega | (unfold maxLen; omega)))
  clear hi hz0 hz1 hz2 hmx
  go_loopw [8, 27] (fun c i wr => ∃ (k : Nat) (f : Nat → Int), k ≤ m + 1 ∧ i = .int .i64 k ∧ c = .int .i64 (car a b k) ∧ Arr wr w.heap.size 5 .u8 (m + 1) f ∧
    Filled (m + 1) (a + b) k f ∧ Below w.heap.size w wr)
    (fun _ i _ => m + 1 - (intOf i).toNat)
  case atStart => exact ⟨0, _, by omega, rfl, by rw [car_zero], ha, Filled.zero _ _, hb⟩
  case round =>
    clear ha hb hsz
    obtain ⟨k, f, hk, rfl, rfl, ha, hf, hb⟩ := hrel
    by_cases hlt : k < m + 1
    · have hcb := car_bound a b k
      have q1 := dg_nonneg (nv s) k
      have q2 := dg_le (nv s) k
      have q3 := dg_nonneg (nv t) k
      have q4 := dg_le (nv t) k
      have hc := ha.cell (show m - k < m + 1 by omega)
      have hfr := ha.free (m - k)
      go_wp2_with (go_at_call 83; refine (digit_any _ _ _ (by omega) (by omega)).mono ?_; rintro e w' ⟨rfl, rfl⟩)
      have st := car_step a b k
      rw [HS.out.nv, HT.out.nv, st.1, st.2]
      go_roundw
      case rel =>
        exact ⟨k + 1, _, by omega, by go_num, rfl, ha.set _ _, hf.step hlt (by omega) rfl, hb.setCell (Nat.le_refl _) _⟩
      case measure => simp [intOf]; omega
    · obtain rfl : k = m + 1 := by omega
      have hn : a + b < 256 ^ (m + 1) := by
        have h1 := lt_blen a
        have h2 := lt_blen b
        have h3 : 256 ^ blen a ≤ 256 ^ m := Nat.pow_le_pow_right (by omega) (by rw [← HS.out.size]; omega)
        have h4 : 256 ^ blen b ≤ 256 ^ m := Nat.pow_le_pow_right (by omega) (by rw [← HT.out.size]; omega)
        rw [Nat.pow_succ]; omega
      have hbl : blen (a + b) ≤ 1000000 := by have := (blen_le_iff _ _).2 hn; omega
      go_wp2_with fail
      refine (trimmed_arr wr w.heap.size (m + 1) (a + b) f ha (by omega) hf.done hn).mono ?_
      rintro e w' ⟨rfl, rfl⟩
      go_wp2_with fail
      refine (fitting_any _ _ hbl).mono ?_
      rintro e w' ⟨rfl, rfl⟩
      go_wp2
      go_ret2
      exact ⟨rfl, hb⟩

end Go.Proofs.YtdlbnioidfhhcaaGreat
