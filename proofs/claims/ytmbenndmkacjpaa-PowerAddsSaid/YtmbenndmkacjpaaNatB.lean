/- Contracts of the package natural: Add, Sub. -/
import Derived.Test.YtmbenndmkacjpaaNatA
import Derived.Test.YtmbenndmkacjpaaArr
import Derived.Lib.MinMax
namespace Go.Proofs.Ytmbenndmkacjpaa
set_option maxRecDepth 20000
open Go.RowKit Num

theorem info_u8 : (Try.prog.info? 5).map (fun i => (i.zero, i.size, i.bytes)) = some (some (.int .u8 0), 1, 1) := by kernel_rfl
theorem info_int : (Try.prog.info? 3).map (fun i => (i.zero, i.size, i.bytes)) = some (some (.int .i64 0), 1, 8) := by kernel_rfl


/-- the first k digits of n are written into a row of N bytes -/
def Filled (N n k : Nat) (f : Nat → Int) : Prop := ∀ j, j < N → f j = if N - 1 - j < k then dg n (N - 1 - j) else 0
theorem Filled.zero (N n : Nat) : Filled N n 0 (fun _ => 0) := fun j _ => by simp
theorem Filled.step {N n k : Nat} {f : Nat → Int} (h : Filled N n k f) (hk : k < N) {i : Nat} (hi : i = N - 1 - k) {v : Int} (hv : v = dg n k) : Filled N n (k + 1) (upd f i v) := by
  intro j hj
  by_cases e : j = i
  · rw [e, upd_same, if_pos (by omega), hv]; congr 1; omega
  · rw [upd_other _ _ e, h j hj]
    by_cases e2 : N - 1 - j < k
    · rw [if_pos e2, if_pos (by omega)]
    · rw [if_neg e2, if_neg (by omega)]
theorem Filled.done {N n : Nat} {f : Nat → Int} (h : Filled N n N f) : ∀ j, j < N → f j = dg n (N - 1 - j) := fun j hj => by rw [h j hj, if_pos (by omega)]

/-- the carry into digit i of a sum -/
def car (a b i : Nat) : Int := ((a + b) / 256 ^ i : Nat) - (a / 256 ^ i : Nat) - (b / 256 ^ i : Nat)
theorem car_zero (a b : Nat) : car a b 0 = 0 := by simp [car]; omega
theorem car_step (a b i : Nat) : (car a b i + (dg a i + dg b i)) % 256 = dg (a + b) i ∧ (car a b i + (dg a i + dg b i)) / 256 = car a b (i + 1) := by
  unfold car dg
  rw [Nat.pow_succ, ← Nat.div_div_eq_div_mul, ← Nat.div_div_eq_div_mul, ← Nat.div_div_eq_div_mul]
  generalize (a + b) / 256 ^ i = S; generalize a / 256 ^ i = A; generalize b / 256 ^ i = C
  omega
theorem car_bound (a b i : Nat) : 0 ≤ car a b i ∧ car a b i ≤ 1 := by
  unfold car
  have hp : 0 < 256 ^ i := Nat.pow_pos (by omega)
  have h1 := Nat.div_add_mod a (256 ^ i)
  have h2 := Nat.div_add_mod b (256 ^ i)
  have h3 := Nat.mod_lt a hp
  have h4 := Nat.mod_lt b hp
  have h5 : a / 256 ^ i + b / 256 ^ i ≤ (a + b) / 256 ^ i := by
    rw [Nat.le_div_iff_mul_le hp, Nat.mul_comm, Nat.mul_add]; omega
  have h6 : (a + b) / 256 ^ i < a / 256 ^ i + b / 256 ^ i + 2 := by
    rw [Nat.div_lt_iff_lt_mul hp, Nat.mul_comm, Nat.mul_add, Nat.mul_add]; omega
  omega

theorem nvL_digits (l : List UInt8) (n : Nat) (hn : n < 256 ^ l.length) (h : ∀ j (hj : j < l.length), (l[j].toNat : Int) = dg n (l.length - 1 - j)) : nvL l = n := by
  have e : l = bytesL l.length n := by
    apply List.ext_getElem
    · rw [length_bytesL]
    · intro j h1 h2
      have := h j h1
      simp only [bytesL, List.getElem_map, List.getElem_range]
      apply UInt8.toNat_inj.1
      rw [UInt8.toNat_ofNat']
      unfold dg at this
      omega
  have := nvL_bytesL l.length n
  rw [← e, Nat.mod_eq_of_lt hn] at this
  exact this
theorem trimmed_arr' (w : World) (b N n : Nat) (f : Nat → Int) (T : TypeId) (ha : Arr w b T .u8 N f) (hN : N ≤ 1000000) (hf : ∀ j, j < N → f j = dg n (N - 1 - j)) (hn : n < 256 ^ N) :
    Calls Try.prog 37 #[.slice (some ⟨b, 0, none⟩) N N] w fun e w' => e = .returned (.string (enc n)) ∧ w = w' := by
  have hl := length_bytesL N n
  have hb : BytesAt w b 0 (bytesL N n) := by
    intro j hj
    rw [hl] at hj
    rw [Nat.zero_add, ha.cell hj, hf j hj]
    simp [bytesL, dg]
  have := trimmed_any b 0 N (bytesL N n) w (by omega) (by omega) hb
  rw [hl, nvL_bytesL, Nat.mod_eq_of_lt hn] at this
  exact this
theorem trimmed_arr (w : World) (b N n : Nat) (f : Nat → Int) (ha : Arr w b 5 .u8 N f) (hN : N ≤ 1000000) (hf : ∀ j, j < N → f j = dg n (N - 1 - j)) (hn : n < 256 ^ N) :
    Calls Try.prog 37 #[.slice (some ⟨b, 0, none⟩) N N] w fun e w' => e = .returned (.string (enc n)) ∧ w = w' :=
  trimmed_arr' w b N n f _ ha hN hf hn

theorem Add_any (s t : ByteArray) (a b : Nat) (w : World) (hs : IsN s a) (ht : IsN t b) :
    Calls Try.prog 31 #[.string s, .string t] w fun e w' => e = .returned (.tuple #[.string (fitS (a + b)), .int .i64 (fitE (a + b))]) ∧ Below w.heap.size w w' := by
  have z1 := hs.small
  have z2 := ht.small
  have v1 := hs.valid
  have v2 := ht.valid
  have HS := Lib.hid hs; clear hs
  have HT := Lib.hid ht; clear ht
  obtain ⟨i0, hi, hz0, hz1, hz2⟩ := info_parts info_u8
  obtain ⟨m, hmx, m1, m2, m3⟩ : ∃ m : Nat, max (s.size : Int) (t.size : Int) = m ∧ s.size ≤ m ∧ t.size ≤ m ∧ m ≤ 128 := ⟨max s.size t.size, by omega, by omega, by omega, by omega⟩
  go_enter Try.func31, Try.ntmps31
  go_wp2_with (first | (go_at_call 10; refine (Valid_any _ _).mono ?_; rintro e w' ⟨rfl, rfl⟩) | (at_make; refine wpList_make_arr _ rfl _ _ _ rfl 5 i0 .u8 1 Try.underlying69 hi hz0 hz1 hz2 _ _ _ _ (m + 1) rfl rfl ?_ ?_ ?_ ?_ ?_ <;> first | (intro w1 ha hb hsz) | omega | (unfold maxLen; omega)))
  clear hi hz0 hz1 hz2 hmx
  go_loopw [8, 27] (fun c i wr => ∃ (k : Nat) (f : Nat → Int), k ≤ m + 1 ∧ i = .int .i64 k ∧ c = .int .i64 (car a b k) ∧ Arr wr w.heap.size 5 .u8 (m + 1) f ∧
    Filled (m + 1) (a + b) k f ∧ Below w.heap.size w wr)
    (fun _ i _ => m + 1 - (intOf i).toNat)
  case atStart => exact ⟨0, _, by omega, rfl, by rw [car_zero], ha, Filled.zero _ _, hb⟩
  case round =>
    clear ha hb hsz
    obtain ⟨k, f, hk, rfl, rfl, ha, hf, hb⟩ := hrel
    by_cases hlt : k < m + 1
    · have hcb := car_bound a b k
      have q1 := dg_nonneg (nv s) k
      have q2 := dg_le (nv s) k
      have q3 := dg_nonneg (nv t) k
      have q4 := dg_le (nv t) k
      have hc := ha.cell (show m - k < m + 1 by omega)
      have hfr := ha.free (m - k)
      go_wp2_with (go_at_call 41; refine (digit_any _ _ _ (by omega) (by omega)).mono ?_; rintro e w' ⟨rfl, rfl⟩)
      have st := car_step a b k
      rw [HS.out.nv, HT.out.nv, st.1, st.2]
      go_roundw
      case rel =>
        exact ⟨k + 1, _, by omega, by go_num, rfl, ha.set _ _, hf.step hlt (by omega) rfl, hb.setCell (Nat.le_refl _) _⟩
      case measure => simp [intOf]; omega
    · obtain rfl : k = m + 1 := by omega
      have hn : a + b < 256 ^ (m + 1) := by
        have h1 := lt_blen a
        have h2 := lt_blen b
        have h3 : 256 ^ blen a ≤ 256 ^ m := Nat.pow_le_pow_right (by omega) (by rw [← HS.out.size]; omega)
        have h4 : 256 ^ blen b ≤ 256 ^ m := Nat.pow_le_pow_right (by omega) (by rw [← HT.out.size]; omega)
        rw [Nat.pow_succ]; omega
      have hbl : blen (a + b) ≤ 1000000 := by have := (blen_le_iff _ _).2 hn; omega
      go_wp2_with fail
      refine (trimmed_arr wr w.heap.size (m + 1) (a + b) f ha (by omega) hf.done hn).mono ?_
      rintro e w' ⟨rfl, rfl⟩
      go_wp2_with fail
      refine (fitting_any _ _ hbl).mono ?_
      rintro e w' ⟨rfl, rfl⟩
      go_wp2
      go_ret2
      exact ⟨rfl, hb⟩

end Go.Proofs.Ytmbenndmkacjpaa
