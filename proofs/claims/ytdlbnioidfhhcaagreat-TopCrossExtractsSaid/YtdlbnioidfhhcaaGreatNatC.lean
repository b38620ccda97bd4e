/- Contracts: comparing, subtracting, short numbers (package natural), and the library's comparisons. -/
import Derived.Test.YtdlbnioidfhhcaaGreatNatA
import Derived.Lib.Bytealg
import Derived.Test.YtdlbnioidfhhcaaGreatBits
namespace Go.Proofs.YtdlbnioidfhhcaaGreat
open Go.RowKit Num
set_option maxRecDepth 20000

/-- the order of two numbers -/
def ncmp (a b : Nat) : Int := if a < b then -1 else if b < a then 1 else 0
theorem ncmp_lt (a b : Nat) : ncmp a b < 0 ↔ a < b := by unfold ncmp; split <;> (try split) <;> omega
theorem ncmp_ge (a b : Nat) : 0 ≤ ncmp a b ↔ b ≤ a := by unfold ncmp; split <;> (try split) <;> omega
theorem ncmp_eq (a b : Nat) : ncmp a b = 0 ↔ a = b := by unfold ncmp; split <;> (try split) <;> omega
theorem ncmp_gt (a b : Nat) : 0 < ncmp a b ↔ b < a := by unfold ncmp; split <;> (try split) <;> omega

theorem compareBytes_eq : ∀ (l r : List UInt8), l.length = r.length → Lib.compareBytes l r = ncmp (nvL l) (nvL r)
  | [], [], _ => rfl
  | [], _ :: _, h => by simp at h
  | _ :: _, [], h => by simp at h
  | x :: l, y :: r, h => by
    have h' : l.length = r.length := by simpa using h
    unfold Lib.compareBytes
    by_cases h1 : x < y
    · rw [if_pos h1]
      have := nvL_lt_of_lt h' (UInt8.lt_iff_toNat_lt.1 h1)
      unfold ncmp; rw [if_pos this]
    · rw [if_neg h1]
      by_cases h2 : y < x
      · rw [if_pos h2]
        have := nvL_lt_of_lt h'.symm (UInt8.lt_iff_toNat_lt.1 h2)
        unfold ncmp; rw [if_neg (by omega), if_pos this]
      · rw [if_neg h2]
        have e : x = y := by
          apply UInt8.toNat_inj.1
          rw [UInt8.lt_iff_toNat_lt] at h1 h2; omega
        subst e
        rw [compareBytes_eq l r h']
        unfold ncmp
        simp only [nvL_cons_lt_iff x h', nvL_cons_lt_iff x h'.symm]

theorem cmpCompare_any (a b : Int) (w : World) :
    Calls Tryz.prog 91 #[.int .i64 a, .int .i64 b] w fun e w' => e = .returned (.int .i64 (if a < b then -1 else if b < a then 1 else 0)) ∧ w = w' := by
  by_cases h1 : a < b
  · rw [if_pos h1]
    go_enter Tryz.func91, Tryz.ntmps91
    go_wp2
    go_ret
    exact ⟨rfl, rfl⟩
  · by_cases h2 : b < a
    · rw [if_neg h1, if_pos h2]
      go_enter Tryz.func91, Tryz.ntmps91
      go_wp2
      go_ret
      exact ⟨rfl, rfl⟩
    · rw [if_neg h1, if_neg h2]
      go_enter Tryz.func91, Tryz.ntmps91
      go_wp2
      go_ret
      exact ⟨rfl, rfl⟩

theorem bytealgCompare_any (a b : ByteArray) (w : World) :
    Calls Tryz.prog 116 #[.string a, .string b] w fun e w' => e = .returned (.int .i64 (Lib.compareBytes a.data.toList b.data.toList)) ∧ w = w' := by
  go_enter Tryz.func116, Tryz.ntmps116
  go_wp2
  rw [run_callFunc_extern Tryz.func135 (by kernel_rfl) (by kernel_rfl) (by kernel_rfl) (e := Extern.BytealgCompare.compare) (by kernel_rfl), Lib.run_compareString]
  simp only [Result.andThen]
  rw [Oper.upon_value]
  go_wp2
  go_ret
  exact ⟨rfl, rfl⟩
theorem stringsCompare_any (a b : ByteArray) (w : World) :
    Calls Tryz.prog 92 #[.string a, .string b] w fun e w' => e = .returned (.int .i64 (Lib.compareBytes a.data.toList b.data.toList)) ∧ w = w' := by
  go_enter Tryz.func92, Tryz.ntmps92
  go_wp2_with (go_at_call 116; refine (bytealgCompare_any _ _ _).mono ?_; rintro e w' ⟨rfl, rfl⟩)
  go_ret
  exact ⟨rfl, rfl⟩

theorem compare_any (s t : ByteArray) (a b : Nat) (w : World) (hs : s = enc a) (ht : t = enc b) :
    Calls Tryz.prog 67 #[.string s, .string t] w fun e w' => e = .returned (.int .i64 (ncmp a b)) ∧ w = w' := by
  have e1 : s.size = blen a := by rw [hs, size_enc]
  have e2 : t.size = blen b := by rw [ht, size_enc]
  have e3 : s.size = t.size → Lib.compareBytes s.data.toList t.data.toList = ncmp a b := by
    intro h
    rw [compareBytes_eq _ _ (by simpa using h)]
    show ncmp (nv s) (nv t) = _
    rw [hs, ht, nv_enc, nv_enc]
  have E1 := Lib.hid e1; clear e1
  have E2 := Lib.hid e2; clear e2
  have E3 := Lib.hid e3; clear e3
  clear hs ht
  by_cases h1 : s.size < t.size
  · have : ncmp a b = -1 := by
      have h := pow_le_of_blen b (blen a) (by rw [← E1.out, ← E2.out]; exact h1)
      have := lt_blen a
      unfold ncmp; rw [if_pos (by omega)]
    have H := Lib.hid this; clear this
    go_enter Tryz.func67, Tryz.ntmps67
    go_wp2_with (first | (go_at_call 91; refine (cmpCompare_any _ _ _).mono ?_; rintro e w' ⟨rfl, rfl⟩) | (go_at_call 92; refine (stringsCompare_any _ _ _).mono ?_; rintro e w' ⟨rfl, rfl⟩))
    go_ret
    exact ⟨ret_int H.out.symm, rfl⟩
  · by_cases h2 : t.size < s.size
    · have : ncmp a b = 1 := by
        have h := pow_le_of_blen a (blen b) (by rw [← E1.out, ← E2.out]; exact h2)
        have := lt_blen b
        unfold ncmp; rw [if_neg (by omega), if_pos (by omega)]
      have H := Lib.hid this; clear this
      go_enter Tryz.func67, Tryz.ntmps67
      go_wp2_with (first | (go_at_call 91; refine (cmpCompare_any _ _ _).mono ?_; rintro e w' ⟨rfl, rfl⟩) | (go_at_call 92; refine (stringsCompare_any _ _ _).mono ?_; rintro e w' ⟨rfl, rfl⟩))
      go_ret
      exact ⟨ret_int H.out.symm, rfl⟩
    · go_enter Tryz.func67, Tryz.ntmps67
      go_wp2_with (first | (go_at_call 91; refine (cmpCompare_any _ _ _).mono ?_; rintro e w' ⟨rfl, rfl⟩) | (go_at_call 92; refine (stringsCompare_any _ _ _).mono ?_; rintro e w' ⟨rfl, rfl⟩))
      go_ret
      exact ⟨ret_int (E3.out (by omega)), rfl⟩

theorem Cmp_any (s t : ByteArray) (a b : Nat) (w : World) (hs : IsN s a) (ht : IsN t b) :
    Calls Tryz.prog 43 #[.string s, .string t] w fun e w' => e = .returned (.int .i64 (ncmp a b)) ∧ w = w' := by
  have z1 := hs.small
  have z2 := ht.small
  have v1 := hs.valid
  have v2 := ht.valid
  have HS := Lib.hid hs.eq; clear hs
  have HT := Lib.hid ht.eq; clear ht
  go_enter Tryz.func43, Tryz.ntmps43
  go_wp2_with (first | (go_at_call 36; refine (Valid_any _ _).mono ?_; rintro e w' ⟨rfl, rfl⟩) | (go_at_call 67; refine (compare_any _ _ _ _ _ HS.out HT.out).mono ?_; rintro e w' ⟨rfl, rfl⟩))
  go_ret
  exact ⟨rfl, rfl⟩

/-- the borrow into digit i of a difference -/
def bor (a b i : Nat) : Int := (a / 256 ^ i : Nat) - (b / 256 ^ i : Nat) - ((a - b) / 256 ^ i : Nat)
theorem bor_zero (a b : Nat) (h : b ≤ a) : bor a b 0 = 0 := by simp [bor]; omega
theorem bor_bound (a b i : Nat) (h : b ≤ a) : 0 ≤ bor a b i ∧ bor a b i ≤ 1 := by
  have := car_bound (a - b) b i
  unfold car at this; unfold bor
  rw [Nat.sub_add_cancel h] at this
  omega
theorem bor_step (a b i : Nat) (h : b ≤ a) :
    (dg a i - dg b i - bor a b i < 0 → dg a i - dg b i - bor a b i + 256 = dg (a - b) i ∧ bor a b (i + 1) = 1) ∧
    (0 ≤ dg a i - dg b i - bor a b i → dg a i - dg b i - bor a b i = dg (a - b) i ∧ bor a b (i + 1) = 0) := by
  have h1 := bor_bound a b (i + 1) h
  unfold bor dg at *
  rw [Nat.pow_succ, ← Nat.div_div_eq_div_mul, ← Nat.div_div_eq_div_mul, ← Nat.div_div_eq_div_mul] at *
  generalize (a - b) / 256 ^ i = S at *; generalize a / 256 ^ i = A at *; generalize b / 256 ^ i = C at *
  omega

theorem less_any (s t : ByteArray) (a b : Nat) (w : World) (hs : s = enc a) (ht : t = enc b) (h : b ≤ a) (ls : s.size ≤ 100000) :
    Calls Tryz.prog 68 #[.string s, .string t] w fun e w' => e = .returned (.string (enc (a - b))) ∧ Below w.heap.size w w' := by
  have n1 : nv s = a := by rw [hs, nv_enc]
  have n2 : nv t = b := by rw [ht, nv_enc]
  have l1 : s.size = blen a := by rw [hs, size_enc]
  have l2 : t.size ≤ s.size := by rw [ht, hs, size_enc, size_enc]; exact blen_mono h
  have HN := Lib.hid n1; clear n1
  have HM := Lib.hid n2; clear n2
  have HL := Lib.hid l1; clear l1
  clear hs ht
  obtain ⟨i0, hi, hz0, hz1, hz2⟩ := info_parts info_u8
  go_enter Tryz.func68, Tryz.ntmps68
  go_wp2_with (at_make; refine wpList_make_arr _ rfl _ _ _ rfl 5 i0 .u8 1 Tryz.underlying115 hi hz0 hz1 hz2 _ _ _ _ s.size rfl rfl ?_ ?_ ?_ ?_ ?_ <;> first | (intro w1 ha hb hsz) | omega | (unfold maxLen; omega))
  clear hi hz0 hz1 hz2
  go_loopw [7, 15] (fun c i wr => ∃ (k : Nat) (f : Nat → Int), k ≤ s.size ∧ i = .int .i64 k ∧ c = .int .i64 (bor a b k) ∧ Arr wr w.heap.size 5 .u8 s.size f ∧
    Filled s.size (a - b) k f ∧ Below w.heap.size w wr)
    (fun _ i _ => s.size - (intOf i).toNat)
  case atStart => exact ⟨0, _, by omega, rfl, by rw [bor_zero a b h], ha, Filled.zero _ _, hb⟩
  case round =>
    clear ha hb hsz
    obtain ⟨k, f, hk, rfl, rfl, ha, hf, hb⟩ := hrel
    by_cases hlt : k < s.size
    · have hcb := bor_bound a b k h
      have q1 := dg_nonneg (nv s) k
      have q2 := dg_le (nv s) k
      have q3 := dg_nonneg (nv t) k
      have q4 := dg_le (nv t) k
      have hc := ha.cell (show s.size - 1 - k < s.size by omega)
      have hfr := ha.free (s.size - 1 - k)
      have st := bor_step a b k h
      have ST := Lib.hid st; clear st
      go_wp2_with (go_at_call 83; refine (digit_any _ _ _ (by omega) (by omega)).mono ?_; rintro e w' ⟨rfl, rfl⟩)
      · have hn : dg (nv s) k - dg (nv t) k - bor a b k < 0 := by assumption
        rw [HN.out, HM.out] at hn ⊢
        have st := ST.out.1 hn
        rw [st.1]
        go_roundw
        case rel => exact ⟨k + 1, _, by omega, by go_num, by rw [st.2], ha.set _ _, hf.step hlt rfl rfl, hb.setCell (Nat.le_refl _) _⟩
        case measure => simp [intOf]; omega
      · have hn : 0 ≤ dg (nv s) k - dg (nv t) k - bor a b k := by assumption
        rw [HN.out, HM.out] at hn ⊢
        have st := ST.out.2 hn
        rw [st.1]
        go_roundw
        case rel => exact ⟨k + 1, _, by omega, by go_num, by rw [st.2], ha.set _ _, hf.step hlt rfl rfl, hb.setCell (Nat.le_refl _) _⟩
        case measure => simp [intOf]; omega
    · obtain rfl : k = s.size := by omega
      have hn : a - b < 256 ^ s.size := by have := lt_blen a; rw [HL.out]; omega
      go_wp2_with (go_at_call 58; refine (trimmed_arr wr w.heap.size s.size (a - b) f ha (by omega) hf.done hn).mono ?_; rintro e w' ⟨rfl, rfl⟩)
      go_ret
      exact ⟨rfl, hb⟩

theorem Sub_any (s t : ByteArray) (a b : Nat) (w : World) (hs : IsN s a) (ht : IsN t b) (h : b ≤ a) :
    Calls Tryz.prog 44 #[.string s, .string t] w fun e w' => e = .returned (.tuple #[.string (enc (a - b)), .int .i64 0]) ∧ Below w.heap.size w w' := by
  have z1 := hs.small
  have v1 := hs.valid
  have v2 := ht.valid
  have HS := Lib.hid hs.eq; clear hs
  have HT := Lib.hid ht.eq; clear ht
  have hc := (ncmp_ge a b).2 h
  go_enter Tryz.func44, Tryz.ntmps44
  go_wp2_with (first | (go_at_call 36; refine (Valid_any _ _).mono ?_; rintro e w' ⟨rfl, rfl⟩) | (go_at_call 67; refine (compare_any _ _ _ _ _ HS.out HT.out).mono ?_; rintro e w' ⟨rfl, rfl⟩) | (go_at_call 68; refine (less_any _ _ _ _ _ HS.out HT.out h (by omega)).mono ?_; rintro e w' ⟨rfl, hb⟩))
  go_ret2
  exact ⟨rfl, hb⟩
theorem Sub_range (s t : ByteArray) (a b : Nat) (w : World) (hs : IsN s a) (ht : IsN t b) (h : a < b) :
    Calls Tryz.prog 44 #[.string s, .string t] w fun e w' => e = .returned (.tuple #[.string ⟨#[]⟩, .int .i64 2]) ∧ w = w' := by
  have v1 := hs.valid
  have v2 := ht.valid
  have HS := Lib.hid hs.eq; clear hs
  have HT := Lib.hid ht.eq; clear ht
  have hc := (ncmp_lt a b).2 h
  go_enter Tryz.func44, Tryz.ntmps44
  go_wp2_with (first | (go_at_call 36; refine (Valid_any _ _).mono ?_; rintro e w' ⟨rfl, rfl⟩) | (go_at_call 67; refine (compare_any _ _ _ _ _ HS.out HT.out).mono ?_; rintro e w' ⟨rfl, rfl⟩))
  go_ret2
  exact ⟨rfl, rfl⟩

theorem Small_long (s : ByteArray) (a : Nat) (w : World) (hs : IsN s a) (h : 8 < s.size) :
    Calls Tryz.prog 97 #[.string s] w fun e w' => e = .returned (.tuple #[.int .u64 0, .bool false]) ∧ w = w' := by
  have v1 := hs.valid
  have HS := Lib.hid hs; clear hs
  go_enter Tryz.func97, Tryz.ntmps97
  go_wp2_with (go_at_call 36; refine (Valid_any _ _).mono ?_; rintro e w' ⟨rfl, rfl⟩)
  go_ret2
  exact ⟨rfl, rfl⟩
/-- the number of the first k bytes -/
def pre (s : ByteArray) (k : Nat) : Int := ((nvL (s.data.toList.take k) : Nat) : Int)
theorem pre_succ (s : ByteArray) (k : Nat) (h : k < s.size) : pre s (k + 1) = pre s k * 256 + (s[k].toNat : Int) := by
  unfold pre
  rw [List.take_succ_eq_append_getElem (by simpa using h), nvL_append]
  simp [nvL]; rfl
theorem pre_bound (s : ByteArray) (k : Nat) (h : k < s.size) (h8 : s.size ≤ 8) : 0 ≤ pre s k ∧ pre s k < 72057594037927936 := by
  have h1 := nvL_lt (s.data.toList.take k)
  have h2 : (s.data.toList.take k).length ≤ 7 := by rw [List.length_take]; omega
  have h3 : 256 ^ (s.data.toList.take k).length ≤ 256 ^ 7 := Nat.pow_le_pow_right (by omega) h2
  unfold pre
  omega
theorem pre_all (s : ByteArray) : pre s s.size = ((nv s : Nat) : Int) := by
  unfold pre nv; rw [List.take_of_length_le (by simp)]
theorem Small_ok (s : ByteArray) (a : Nat) (w : World) (hs : IsN s a) (h : s.size ≤ 8) :
    Calls Tryz.prog 97 #[.string s] w fun e w' => e = .returned (.tuple #[.int .u64 (a : Int), .bool true]) ∧ w = w' := by
  have v1 := hs.valid
  have HS := Lib.hid hs; clear hs
  go_enter Tryz.func97, Tryz.ntmps97
  go_wp2_with (go_at_call 36; refine (Valid_any _ _).mono ?_; rintro e w' ⟨rfl, rfl⟩)
  go_loop [4, 16] (fun n i => ∃ k : Nat, k ≤ s.size ∧ i = .int .i64 k ∧ n = .int .u64 (pre s k)) (fun _ i => s.size - (intOf i).toNat)
  case atStart => exact ⟨0, by omega, rfl, by simp [pre, nvL]⟩
  case round =>
    obtain ⟨k, hk, rfl, rfl⟩ := hrel
    by_cases hlt : k < s.size
    · have hb := pre_bound s k hlt h
      have hp := pre_succ s k hlt
      have HP := Lib.hid hp; clear hp
      go_wp2_with fail
      have hc := s[k].toNat_lt
      rw [wraps_u64 (s[k].toNat : Int) (by omega) (by omega), or_u64 8 _ _ (by omega) (by omega) (by omega) (by omega) (by omega) (by omega)]
      go_round
      case rel => exact ⟨k + 1, by omega, by go_num, by rw [HP.out]⟩
      case measure => simp [intOf]; omega
    · obtain rfl : k = s.size := by omega
      have hp := pre_all s
      have HP := Lib.hid hp; clear hp
      go_wp2_with fail
      go_ret2
      rw [HP.out, HS.out.nv]
      exact ⟨rfl, rfl⟩

/-- what Small gives of a number: the number, if it is short -/
def sm (a : Nat) : Nat := if blen a ≤ 8 then a else 0
theorem sm_lt (a : Nat) : sm a < 18446744073709551616 := by
  unfold sm; split
  · rename_i h; have := (blen_le_iff a 8).1 h; omega
  · omega
theorem sm_short {a : Nat} (h : blen a ≤ 8) : sm a = a := if_pos h
theorem Small_any (s : ByteArray) (a : Nat) (w : World) (hs : IsN s a) :
    Calls Tryz.prog 97 #[.string s] w fun e w' => e = .returned (.tuple #[.int .u64 ((sm a : Nat) : Int), .bool (decide (blen a ≤ 8))]) ∧ w = w' := by
  by_cases h : blen a ≤ 8
  · refine (Small_ok s a w hs (by rw [hs.size]; exact h)).mono ?_
    rintro e w' ⟨rfl, rfl⟩
    rw [sm_short h]; simp [h]
  · refine (Small_long s a w hs (by rw [hs.size]; omega)).mono ?_
    rintro e w' ⟨rfl, rfl⟩
    simp [sm, h]
theorem zero8 : #[Value.int .u8 0, .int .u8 0, .int .u8 0, .int .u8 0, .int .u8 0, .int .u8 0, .int .u8 0, .int .u8 0] = icells .u8 8 (fun _ => 0) := by kernel_rfl
theorem Of_any (n : Nat) (w : World) (h : n < 18446744073709551616) :
    Calls Tryz.prog 38 #[.int .u64 (n : Int)] w fun e w' => e = .returned (.string (enc n)) ∧ Below w.heap.size w w' := by
  go_enter Tryz.func38, Tryz.ntmps38
  go_wp2_with fail
  go_loopw [5] (fun i wr => ∃ (k : Nat) (f : Nat → Int), k ≤ 8 ∧ i = .int .i64 k ∧ Arr wr w.heap.size 113 .u8 8 f ∧ Filled 8 n k f ∧ Below w.heap.size w wr)
    (fun i _ => 8 - (intOf i).toNat)
  case atStart => exact ⟨0, _, by omega, rfl, (by rw [zero8]; exact Arr.new _ _ _ 8 _), Filled.zero _ _, (Below.refl _ _).alloc (Nat.le_refl _) _⟩
  case round =>
    obtain ⟨k, f, hk, rfl, ha, hf, hb⟩ := hrel
    by_cases hlt : k < 8
    · have hc := ha.cell (show 7 - k < 8 by omega)
      have hfr := ha.free (7 - k)
      go_wp2_with fail
      go_roundw
      case rel =>
        refine ⟨k + 1, _, by omega, by go_num, ha.set _ _, hf.step hlt (by omega) ?_, hb.setCell (Nat.le_refl _) _⟩
        unfold dg
        rw [show (256 : Nat) ^ k = 2 ^ (8 * k) from by rw [Nat.pow_mul]]
        simp
      case measure => simp [intOf]; omega
    · obtain rfl : k = 8 := by omega
      go_wp2_with fail
      refine (trimmed_arr' wr w.heap.size 8 n f 113 ha (by omega) hf.done (by omega)).mono ?_
      rintro e w' ⟨rfl, rfl⟩
      go_wp2_with fail
      go_ret
      exact ⟨rfl, hb⟩
end Go.Proofs.YtdlbnioidfhhcaaGreat
