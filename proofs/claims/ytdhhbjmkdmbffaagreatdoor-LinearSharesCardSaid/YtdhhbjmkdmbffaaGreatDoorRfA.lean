import Derived.Test.YtdhhbjmkdmbffaaGreatDoorNatC
import Derived.BigQuiet
import Derived.Deep.QuietTactic
import Derived.Test.YtdhhbjmkdmbffaaGreatDoorBl
import Derived.Test.YtdhhbjmkdmbffaaGreatDoorNatE
import Derived.Test.YtdhhbjmkdmbffaaGreatDoorNatD
import Derived.Test.YtdhhbjmkdmbffaaGreatDoorNatG
import Derived.Deep.RegionWith
/- Small facts on strings as bytes. -/
namespace Go.Proofs.YtdhhbjmkdmbffaaGreatDoor
open Go.RowKit Num
theorem toList_nonempty {s : ByteArray} (h0 : s.size ≠ 0) : (s.toList = [] → False) ∧ s.toList.isEmpty = false := by
  have e1 : s.toList = [] → False := fun e => h0 (by
    rw [ByteArray.toList_eq] at e
    show s.data.size = 0
    rw [← Array.length_toList, e]; rfl)
  refine ⟨e1, ?_⟩
  cases hh : s.toList with
  | nil => exact (e1 hh).elim
  | cons a l => rfl
theorem bytes_zero {s : ByteArray} (h0 : s.size = 0) : s = ⟨#[]⟩ := by
  cases s with | mk d => simp [ByteArray.size] at h0; simp [h0]
end Go.Proofs.YtdhhbjmkdmbffaaGreatDoor

/- Contracts of the reference of layer 1: Valid, trim, at, U64, Of, Order, Plus, Minus. -/
namespace Go.Proofs.YtdhhbjmkdmbffaaGreatDoor
open Go.RowKit Num
set_option maxRecDepth 20000
set_option linter.unusedVariables false

theorem refValid_any (s : ByteArray) (w : World) :
    Calls Tryz.prog 93 #[.string s] w fun e w' => e = .returned (.bool (validB s)) ∧ w = w' := by
  by_cases h : s.size ≤ 128
  · by_cases h0 : s.size = 0
    · have e : s = ⟨#[]⟩ := by
        cases s with | mk d => simp [ByteArray.size] at h0; simp [h0]
      subst e
      go_enter Tryz.func93, Tryz.ntmps93
      go_wp2
      go_ret
      exact ⟨ret_bool (by simp [validB, canon_empty h0]; decide), rfl⟩
    · have hp : 0 < s.size := by omega
      have e1 : s.toList = [] → False := fun e => h0 (by
        rw [ByteArray.toList_eq] at e
        show s.data.size = 0
        rw [← Array.length_toList, e]; rfl)
      have e2 : s.toList.isEmpty = false := by
        cases hh : s.toList with
        | nil => exact (e1 hh).elim
        | cons a l => rfl
      go_enter Tryz.func93, Tryz.ntmps93
      go_wp2
      go_ret
      refine ⟨ret_bool ?_, rfl⟩
      have := canon_pos hp
      rw [Bool.eq_iff_iff]; simp [validB, h, this]
  · go_enter Tryz.func93, Tryz.ntmps93
    go_wp2
    go_ret
    exact ⟨ret_bool (by simp [validB, h]), rfl⟩

theorem refTrim_any (b cap : Nat) (l : List UInt8) (w : World) (hc : l.length ≤ cap) (hc2 : cap ≤ 2000000) (hb : BytesAt w b 0 l) :
    Calls Tryz.prog 158 #[.slice (some ⟨b, 0, none⟩) l.length cap] w fun e w' => e = .returned (.string (enc (nvL l))) ∧ w = w' := by
  go_enter Tryz.func158, Tryz.ntmps158
  go_wp2
  go_loop [3] (fun v => ∃ k : Nat, k ≤ l.length ∧ v = .int .i64 k ∧ Hid (nvL (l.drop k) = nvL l)) (fun v => l.length - (intOf v).toNat)
  case atStart => exact ⟨0, by omega, rfl, rfl⟩
  case round =>
    obtain ⟨k, hk, rfl, hv⟩ := hrel
    by_cases hlt : k < l.length
    · have hc0 := hb k hlt
      rw [Nat.zero_add] at hc0
      obtain ⟨x, hx⟩ : ∃ x, l[k] = x := ⟨_, rfl⟩
      rw [hx] at hc0
      have hd : l.drop k = x :: l.drop (k + 1) := by rw [← hx]; exact List.drop_eq_getElem_cons hlt
      rw [hd] at hv
      by_cases hz : x = 0
      · subst hz
        have hc0' : w.cell? ⟨b, k, none⟩ = some (.int .u8 0) := hc0
        clear hc0
        have hv1 : Hid (nvL (l.drop (k + 1)) = nvL l) := by rw [← hv.out, nvL_cons]; simp [Hid]
        have HB := Lib.hid hb
        clear hb hx hd
        go_wp2
        go_round
        case rel => exact ⟨k + 1, by omega, by go_num, hv1⟩
        case measure => simp [intOf]; omega
      · have hx' : ((x.toNat : Int) == 0) = false := by
          rw [beq_eq_false_iff_ne]; intro e
          exact hz (UInt8.toNat_inj.1 (by simpa using e))
        have hbr : BytesAt w b k (x :: l.drop (k + 1)) := by
          intro j hj
          have hj2 : k + j < l.length := by simp at hj; omega
          have := hb (k + j) hj2
          rw [Nat.zero_add] at this
          rw [this]
          congr 2
          have e : (x :: l.drop (k + 1))[j] = (l.drop k)[j]'(by rw [hd]; exact hj) := by simp only [hd]
          rw [e, List.getElem_drop]
        have hcv := conv_back w b k (cap - k) (x :: l.drop (k + 1)) hbr
        rw [show (x :: l.drop (k + 1)).length = l.length - k from by simp; omega] at hcv
        have hck : k ≠ cap := by omega
        clear hb hx hd hbr
        have HV := Lib.hid hv.out
        clear hv
        go_wp2
        go_ret
        refine ⟨ret_str ?_, rfl⟩
        rw [← HV.out]; unfold enc; rw [encL_nvL _ (by simp [hz])]
    · obtain rfl : k = l.length := by omega
      have hn : nvL l = 0 := by rw [← hv.out]; simp [nvL]
      have HN := Lib.hid hn
      clear hv hn hb
      have hcv : ∀ o c, (convert 88 25 (.slice (some ⟨b, o, none⟩) 0 c)).run Tryz.prog w = .ok (.string ⟨#[]⟩) w := fun o c => conv_back w b o c [] (fun j hj => by simp at hj)
      by_cases hcl : cap = l.length
      · subst hcl
        go_wp2
        go_ret
        exact ⟨ret_str (by rw [HN.out]; rfl), rfl⟩
      · go_wp2
        go_ret
        exact ⟨ret_str (by rw [HN.out]; rfl), rfl⟩
theorem refTrim_arr (w : World) (b N n : Nat) (f : Nat → Int) (T : TypeId) (ha : Arr w b T .u8 N f) (hN : N ≤ 1000000) (hf : ∀ j, j < N → f j = dg n (N - 1 - j)) (hn : n < 256 ^ N) :
    Calls Tryz.prog 158 #[.slice (some ⟨b, 0, none⟩) N N] w fun e w' => e = .returned (.string (enc n)) ∧ w = w' := by
  have hl := length_bytesL N n
  have hb : BytesAt w b 0 (bytesL N n) := by
    intro j hj
    rw [hl] at hj
    rw [Nat.zero_add, ha.cell hj, hf j hj]
    simp [bytesL, dg]
  have := refTrim_any b N (bytesL N n) w (by omega) (by omega) hb
  rw [hl, nvL_bytesL, Nat.mod_eq_of_lt hn] at this
  exact this

theorem refAt_any (s : ByteArray) (i : Int) (w : World) (h0 : 0 ≤ i) (hs : s.size ≤ 1000000) :
    Calls Tryz.prog 190 #[.string s, .int .i64 i] w fun e w' => e = .returned (.int .i64 (dg (nv s) i.toNat)) ∧ w = w' := by
  by_cases h : i < s.size
  · have e := nv_digit s i.toNat (by omega)
    have e2 : ((s.size : Int) - 1 - i).toNat = s.size - 1 - i.toNat := by omega
    have H := Lib.hid e; clear e
    have H2 := Lib.hid e2; clear e2
    go_enter Tryz.func190, Tryz.ntmps190
    go_wp2
    go_ret
    refine ⟨ret_int ?_, rfl⟩
    rw [wrap64_u8]
    simp only [H2.out, H.out, dg]
  · have e := nv_digit_past s i.toNat (by omega)
    have H := Lib.hid e; clear e
    go_enter Tryz.func190, Tryz.ntmps190
    go_wp2
    go_ret
    refine ⟨ret_int ?_, rfl⟩
    simp only [H.out, dg]; rfl

theorem refPlus_any (s t : ByteArray) (a b : Nat) (w : World) (hs : s = enc a) (ht : t = enc b) (z1 : s.size ≤ 10000) (z2 : t.size ≤ 10000) :
    Calls Tryz.prog 188 #[.string s, .string t] w fun e w' => e = .returned (.string (enc (a + b))) ∧ Below w.heap.size w w' := by
  have l1 : s.size = blen a := by rw [hs, size_enc]
  have l2 : t.size = blen b := by rw [ht, size_enc]
  have n1 : nv s = a := by rw [hs, nv_enc]
  have n2 : nv t = b := by rw [ht, nv_enc]
  have HL1 := Lib.hid l1; clear l1
  have HL2 := Lib.hid l2; clear l2
  have HN1 := Lib.hid n1; clear n1
  have HN2 := Lib.hid n2; clear n2
  clear hs ht
  obtain ⟨i0, hi, hz0, hz1, hz2⟩ := info_parts info_u8
  obtain ⟨m, hmx, m1, m2, m3⟩ : ∃ m : Nat, max (s.size : Int) (t.size : Int) = m ∧ s.size ≤ m ∧ t.size ≤ m ∧ m ≤ 10000 := ⟨max s.size t.size, by omega, by omega, by omega, by omega⟩
  go_enter Tryz.func188, Tryz.ntmps188
  go_wp2_with (at_make; refine wpList_make_arr _ rfl _ _ _ rfl 5 i0 .u8 1 Tryz.underlying88 hi hz0 hz1 hz2 _ _ _ _ (m + 1) rfl rfl ?_ ?_ ?_ ?_ ?_ <;> first | (intro w1 ha hb hsz) | omega | (unfold maxLen; omega))
  clear hi hz0 hz1 hz2 hmx
  go_loopw [7, 8] (fun c i wr => ∃ (k : Nat) (f : Nat → Int), k ≤ m + 1 ∧ i = .int .i64 k ∧ c = .int .i64 (car a b k) ∧ Arr wr w.heap.size 5 .u8 (m + 1) f ∧
    Filled (m + 1) (a + b) k f ∧ Below w.heap.size w wr)
    (fun _ i _ => m + 1 - (intOf i).toNat)
  case atStart => exact ⟨0, _, by omega, rfl, by rw [car_zero], ha, Filled.zero _ _, hb⟩
  case round =>
    clear ha hb hsz
    obtain ⟨k, f, hk, rfl, rfl, ha, hf, hb⟩ := hrel
    by_cases hlt : k < m + 1
    · have hcb := car_bound a b k
      have q1 := dg_nonneg (nv s) k
      have q2 := dg_le (nv s) k
      have q3 := dg_nonneg (nv t) k
      have q4 := dg_le (nv t) k
      have hc := ha.cell (show m - k < m + 1 by omega)
      have hfr := ha.free (m - k)
      go_wp2_with (go_at_call 190; refine (refAt_any _ _ _ (by omega) (by omega)).mono ?_; rintro e w' ⟨rfl, rfl⟩)
      have st := car_step a b k
      rw [show car a b k + (dg a k + dg b k) = dg a k + dg b k + car a b k from by omega] at st
      rw [HN1.out, HN2.out, st.1, st.2]
      exact ⟨⟨k + 1, _, by omega, by go_num, rfl, ha.set _ _, hf.step hlt (by omega) rfl, hb.setCell (Nat.le_refl _) _⟩, by simp [intOf]; omega⟩
    · obtain rfl : k = m + 1 := by omega
      have hn : a + b < 256 ^ (m + 1) := by
        have h1 := lt_blen a
        have h2 := lt_blen b
        have h3 : 256 ^ blen a ≤ 256 ^ m := Nat.pow_le_pow_right (by omega) (by rw [← HL1.out]; omega)
        have h4 : 256 ^ blen b ≤ 256 ^ m := Nat.pow_le_pow_right (by omega) (by rw [← HL2.out]; omega)
        rw [Nat.pow_succ]; omega
      go_wp2_with fail
      refine (refTrim_arr wr w.heap.size (m + 1) (a + b) f _ ha (by omega) hf.done hn).mono ?_
      rintro e w' ⟨rfl, rfl⟩
      go_wp2
      go_ret
      exact ⟨rfl, hb⟩

theorem refMinus_any (s t : ByteArray) (a b : Nat) (w : World) (hs : s = enc a) (ht : t = enc b) (h : b ≤ a) (ls : s.size ≤ 10000) :
    Calls Tryz.prog 167 #[.string s, .string t] w fun e w' => e = .returned (.string (enc (a - b))) ∧ Below w.heap.size w w' := by
  have n1 : nv s = a := by rw [hs, nv_enc]
  have n2 : nv t = b := by rw [ht, nv_enc]
  have l1 : s.size = blen a := by rw [hs, size_enc]
  have l2 : t.size ≤ s.size := by rw [ht, hs, size_enc, size_enc]; exact blen_mono h
  have HN := Lib.hid n1; clear n1
  have HM := Lib.hid n2; clear n2
  have HL := Lib.hid l1; clear l1
  clear hs ht
  obtain ⟨i0, hi, hz0, hz1, hz2⟩ := info_parts info_u8
  go_enter Tryz.func167, Tryz.ntmps167
  go_wp2_with (at_make; refine wpList_make_arr _ rfl _ _ _ rfl 5 i0 .u8 1 Tryz.underlying88 hi hz0 hz1 hz2 _ _ _ _ s.size rfl rfl ?_ ?_ ?_ ?_ ?_ <;> first | (intro w1 ha hb hsz) | omega | (unfold maxLen; omega))
  clear hi hz0 hz1 hz2
  go_loopw [7, 8] (fun c i wr => ∃ (k : Nat) (f : Nat → Int), k ≤ s.size ∧ i = .int .i64 k ∧ c = .int .i64 (bor a b k) ∧ Arr wr w.heap.size 5 .u8 s.size f ∧
    Filled s.size (a - b) k f ∧ Below w.heap.size w wr)
    (fun _ i _ => s.size - (intOf i).toNat)
  case atStart => exact ⟨0, _, by omega, rfl, by rw [bor_zero a b h], ha, Filled.zero _ _, hb⟩
  case round =>
    clear ha hb hsz
    obtain ⟨k, f, hk, rfl, rfl, ha, hf, hb⟩ := hrel
    by_cases hlt : k < s.size
    · have hcb := bor_bound a b k h
      have q1 := dg_nonneg (nv s) k
      have q2 := dg_le (nv s) k
      have q3 := dg_nonneg (nv t) k
      have q4 := dg_le (nv t) k
      have hc := ha.cell (show s.size - 1 - k < s.size by omega)
      have hfr := ha.free (s.size - 1 - k)
      have st := bor_step a b k h
      have ST := Lib.hid st; clear st
      go_wp2_with (go_at_call 190; refine (refAt_any _ _ _ (by omega) (by omega)).mono ?_; rintro e w' ⟨rfl, rfl⟩)
      · have hn : dg (nv s) k - dg (nv t) k - bor a b k < 0 := by assumption
        rw [HN.out, HM.out] at hn ⊢
        have st := ST.out.1 hn
        rw [st.1]
        exact ⟨⟨k + 1, _, by omega, by go_num, by rw [st.2], ha.set _ _, hf.step hlt rfl rfl, hb.setCell (Nat.le_refl _) _⟩, by simp [intOf]; omega⟩
      · have hn : 0 ≤ dg (nv s) k - dg (nv t) k - bor a b k := by assumption
        rw [HN.out, HM.out] at hn ⊢
        have st := ST.out.2 hn
        rw [st.1]
        exact ⟨⟨k + 1, _, by omega, by go_num, by rw [st.2], ha.set _ _, hf.step hlt rfl rfl, hb.setCell (Nat.le_refl _) _⟩, by simp [intOf]; omega⟩
    · obtain rfl : k = s.size := by omega
      have hn : a - b < 256 ^ s.size := by have := lt_blen a; rw [HL.out]; omega
      go_wp2_with (go_at_call 158; refine (refTrim_arr wr w.heap.size s.size (a - b) f _ ha (by omega) hf.done hn).mono ?_; rintro e w' ⟨rfl, rfl⟩)
      go_ret
      exact ⟨rfl, hb⟩

theorem nvL_take_step (l : List UInt8) (k : Nat) (h : k < l.length) : nvL (l.take (k + 1)) = nvL (l.take k) * 256 + l[k].toNat := by
  rw [List.take_succ_eq_append_getElem h, nvL_append]
  simp [nvL]
theorem nvL_take_lt (l : List UInt8) (k : Nat) (h : k ≤ 8) : nvL (l.take k) < 18446744073709551616 := by
  have h1 := nvL_lt (l.take k)
  have h2 : 256 ^ (l.take k).length ≤ 256 ^ 8 := Nat.pow_le_pow_right (by omega) (by simp; omega)
  omega
theorem refU64_any (s : ByteArray) (w : World) (hs : s.size ≤ 8) :
    Calls Tryz.prog 186 #[.string s] w fun e w' => e = .returned (.int .u64 ((nv s : Nat) : Int)) ∧ w = w' := by
  obtain ⟨l, rfl⟩ : ∃ l : List UInt8, s = ⟨l.toArray⟩ := ⟨s.data.toList, by simp⟩
  have hl : (⟨l.toArray⟩ : ByteArray).size = l.length := by simp [ByteArray.size]
  have hnv : nv ⟨l.toArray⟩ = nvL l := by simp [nv]
  have HNV := Lib.hid hnv; clear hnv
  go_enter Tryz.func186, Tryz.ntmps186
  go_wp2
  go_loop [3, 4] (fun n i => ∃ k : Nat, k ≤ l.length ∧ i = .int .i64 k ∧ n = .int .u64 ((nvL (l.take k) : Nat) : Int)) (fun _ i => l.length - (intOf i).toNat)
  case atStart => exact ⟨0, by omega, rfl, by simp [nvL]⟩
  case round =>
    obtain ⟨k, hk, rfl, rfl⟩ := hrel
    by_cases hlt : k < l.length
    · have st := nvL_take_step l k hlt
      have b1 := nvL_take_lt l (k + 1) (by omega)
      obtain ⟨x, hx⟩ : ∃ x, nvL (l.take k) = x := ⟨_, rfl⟩
      rw [hx] at st ⊢
      rw [st] at b1
      have hb := l[k].toNat_lt
      have ev : IntKind.u64.wrap ((x : Int) * 256 + IntKind.u64.wrap (((⟨l.toArray⟩ : ByteArray)[k]'(by rw [hl]; exact hlt)).toNat : Int)) = ((x * 256 + l[k].toNat : Nat) : Int) := by
        rw [show ((⟨l.toArray⟩ : ByteArray)[k]'(by rw [hl]; exact hlt)) = l[k] from rfl, wraps_u64 (l[k].toNat : Int) (by omega) (by omega), wraps_u64 _ (by omega) (by omega)]
        omega
      have EV := Lib.hid ev
      clear ev
      go_wp2
      exact ⟨⟨k + 1, by omega, by go_num, by rw [EV.out, st]⟩, by simp [intOf]; omega⟩
    · obtain rfl : k = l.length := by omega
      rw [List.take_length]
      go_wp2
      go_ret
      exact ⟨ret_int (by rw [HNV.out]), rfl⟩

theorem refOf_any (n : Nat) (w : World) (hn : n < 18446744073709551616) :
    Calls Tryz.prog 123 #[.int .u64 (n : Int)] w fun e w' => e = .returned (.string (enc n)) ∧ Below w.heap.size w w' := by
  have hn8 : n < 256 ^ 8 := by omega
  have HN := Lib.hid hn8; clear hn8
  obtain ⟨i0, hi, hz0, hz1, hz2⟩ := info_parts info_u8
  go_enter Tryz.func123, Tryz.ntmps123
  go_wp2_with (at_make; refine wpList_make_arr _ rfl _ _ _ rfl 5 i0 .u8 1 Tryz.underlying88 hi hz0 hz1 hz2 _ _ _ _ 8 rfl rfl ?_ ?_ ?_ ?_ ?_ <;> first | (intro w1 ha hb hsz) | omega | (unfold maxLen; omega))
  clear hi hz0 hz1 hz2
  go_loopw [0, 4] (fun c i wr => ∃ (j : Nat) (x : Int) (f : Nat → Int), j ≤ 8 ∧ i = .int .i64 x ∧ Hid (x = (j : Int) - 1) ∧ c = .int .u64 ((n / 256 ^ (8 - j) : Nat) : Int) ∧ Arr wr w.heap.size 5 .u8 8 f ∧
    Filled 8 n (8 - j) f ∧ Below w.heap.size w wr)
    (fun _ i _ => (intOf i + 1).toNat)
  case atStart => exact ⟨8, _, _, by omega, rfl, rfl, by simp, ha, Filled.zero _ _, hb⟩
  case round =>
    clear ha hb hsz
    obtain ⟨j, x, f, hj, rfl, hx, rfl, ha, hf, hb⟩ := hrel
    rcases j with _ | i
    · obtain rfl : x = -1 := by have := hx.out; simpa using this
      clear hx
      have hf := hf.done
      go_wp2_with fail
      refine (refTrim_arr wr w.heap.size 8 n f _ ha (by omega) hf HN.out).mono ?_
      rintro e w' ⟨rfl, rfl⟩
      go_wp2
      go_ret
      exact ⟨rfl, hb⟩
    · obtain rfl : x = i := by have := hx.out; omega
      clear hx
      have hc := ha.cell (show i < 8 by omega)
      have hfr := ha.free i
      have hq : n / 256 ^ (8 - (i + 1)) ≤ n := Nat.div_le_self _ _
      have hs1 : n / 256 ^ (8 - i) = n / 256 ^ (8 - (i + 1)) / 256 := by rw [Nat.div_div_eq_div_mul, ← Nat.pow_succ]; congr 2; omega
      have hd : ((n / 256 ^ (8 - (i + 1)) : Nat) : Int) % 256 = dg n (8 - (i + 1)) := by unfold dg; simp
      have hst := hf.step (v := dg n (8 - (i + 1))) (i := i) (by omega) (by omega) rfl
      rw [show 8 - (i + 1) + 1 = 8 - i from by omega] at hst
      obtain ⟨y, hy⟩ : ∃ y, n / 256 ^ (8 - (i + 1)) = y := ⟨_, rfl⟩
      rw [hy] at hs1 hd hq ⊢
      have HST := Lib.hid hst
      have HD := Lib.hid hd
      have HS1 := Lib.hid hs1
      clear hst hd hs1 hy hf
      go_wp2_with fail
      rw [HD.out]
      exact ⟨⟨i, _, _, by omega, rfl, rfl, by rw [HS1.out]; simp, ha.set i _, HST.out, hb.setCell (Nat.le_refl _) _⟩, by simp [intOf]⟩

theorem nvL_cmp_at {l r : List UInt8} (hl : l.length = r.length) {k : Nat} (hk : k < l.length) (he : l.take k = r.take k) (h : l[k].toNat < (r[k]'(by omega)).toNat) : nvL l < nvL r := by
  have e1 : l = l.take k ++ l[k] :: l.drop (k + 1) := by
    conv => lhs; rw [← List.take_append_drop k l, List.drop_eq_getElem_cons hk]
  have e2 : r = r.take k ++ r[k]'(by omega) :: r.drop (k + 1) := by
    conv => lhs; rw [← List.take_append_drop k r, List.drop_eq_getElem_cons (by omega : k < r.length)]
  have hd : (l.drop (k + 1)).length = (r.drop (k + 1)).length := by simp [hl]
  have h3 := nvL_lt_of_lt hd h
  rw [e1, e2, nvL_append, nvL_append, he]
  simp only [List.length_cons, hd]
  omega
theorem refOrder_any (s t : ByteArray) (a b : Nat) (w : World) (hs : s = enc a) (ht : t = enc b) (ls : s.size ≤ 10000) (lt : t.size ≤ 10000) :
    Calls Tryz.prog 98 #[.string s, .string t] w fun e w' => e = .returned (.int .i64 (ncmp a b)) ∧ Below w.heap.size w w' := by
  have e1 : s.size = blen a := by rw [hs, size_enc]
  have e2 : t.size = blen b := by rw [ht, size_enc]
  by_cases h1 : s.size = t.size
  · obtain ⟨l, hl0⟩ : ∃ l : List UInt8, s = ⟨l.toArray⟩ := ⟨s.data.toList, by simp⟩
    obtain ⟨r, hr0⟩ : ∃ l : List UInt8, t = ⟨l.toArray⟩ := ⟨t.data.toList, by simp⟩
    have hna : nvL l = a := by have : nv s = a := by rw [hs, nv_enc]
                               rw [hl0] at this; simpa [nv] using this
    have hnb : nvL r = b := by have : nv t = b := by rw [ht, nv_enc]
                               rw [hr0] at this; simpa [nv] using this
    clear hs ht e1 e2
    subst hl0 hr0
    have hl : (⟨l.toArray⟩ : ByteArray).size = l.length := by simp [ByteArray.size]
    have hr : (⟨r.toArray⟩ : ByteArray).size = r.length := by simp [ByteArray.size]
    have hlr : l.length = r.length := by omega
    have HA := Lib.hid hna
    have HB := Lib.hid hnb
    clear hna hnb
    go_enter Tryz.func98, Tryz.ntmps98
    go_wp2_with fail
    go_loopw [5] (fun i wr => ∃ k : Nat, k ≤ l.length ∧ i = .int .i64 k ∧ Hid (l.take k = r.take k) ∧ Below w.heap.size w wr) (fun i _ => l.length - (intOf i).toNat)
    case atStart => exact ⟨0, by omega, rfl, by simp [Hid], Below.refl _ _⟩
    case round =>
      obtain ⟨k, hk, rfl, he, hb⟩ := hrel
      by_cases hlt : k < l.length
      · have hkr : k < r.length := by omega
        by_cases hxy : l[k] = r[k]
        · have t1 : ((((⟨l.toArray⟩ : ByteArray)[k]'(by omega)).toNat : Int) != (((⟨r.toArray⟩ : ByteArray)[k]'(by omega)).toNat : Int)) = false := by show ((l[k].toNat : Int) != (r[k].toNat : Int)) = false; rw [hxy]; simp
          have hst : l.take (k + 1) = r.take (k + 1) := by rw [List.take_succ_eq_append_getElem hlt, List.take_succ_eq_append_getElem hkr, he.out, hxy]
          have HST := Lib.hid hst
          clear hst hxy
          go_wp2_with fail
          go_quiet (fail)
          have hb1 := below_drewN hb nq
          generalize wr.drewN nq = w1 at hb1 ⊢
          clear t1
          go_wp2_with fail
          exact ⟨⟨k + 1, by omega, by go_num, HST.out, hb1⟩, by simp [intOf]; omega⟩
        · have t1 : ((((⟨l.toArray⟩ : ByteArray)[k]'(by omega)).toNat : Int) != (((⟨r.toArray⟩ : ByteArray)[k]'(by omega)).toNat : Int)) = true := by
            rw [bne_iff_ne]; intro e
            exact hxy (UInt8.toNat_inj.1 (by show l[k].toNat = r[k].toNat; exact_mod_cast e))
          by_cases hlt3 : l[k].toNat < r[k].toNat
          · have t2 : decide (((⟨l.toArray⟩ : ByteArray)[k]'(by omega)).toNat < ((⟨r.toArray⟩ : ByteArray)[k]'(by omega)).toNat) = true := by rw [decide_eq_true_eq]; exact hlt3
            have hz : ncmp a b = -1 := by
              have := nvL_cmp_at hlr hlt he.out hlt3
              rw [HA.out, HB.out] at this
              unfold ncmp; rw [if_pos this]
            have HZ := Lib.hid hz
            clear hz hxy hlt3
            go_wp2_with fail
            go_quiet (fail)
            have hb1 := below_drewN hb nq
            generalize wr.drewN nq = w1 at hb1 ⊢
            clear t1
            go_wp2_with fail
            go_quiet (fail)
            have hb2 := below_drewN hb1 nq
            generalize w1.drewN nq = w2 at hb2 ⊢
            clear t2
            go_wp2_with fail
            go_ret
            exact ⟨ret_int HZ.out.symm, hb2⟩
          · have t2 : decide (((⟨l.toArray⟩ : ByteArray)[k]'(by omega)).toNat < ((⟨r.toArray⟩ : ByteArray)[k]'(by omega)).toNat) = false := by rw [decide_eq_false_iff_not]; exact hlt3
            have hz : ncmp a b = 1 := by
              have hgt : r[k].toNat < l[k].toNat := by
                have : l[k].toNat ≠ r[k].toNat := fun e => hxy (UInt8.toNat_inj.1 e)
                omega
              have := nvL_cmp_at hlr.symm hkr he.out.symm hgt
              rw [HA.out, HB.out] at this
              unfold ncmp; rw [if_neg (by omega), if_pos this]
            have HZ := Lib.hid hz
            clear hz hxy hlt3
            go_wp2_with fail
            go_quiet (fail)
            have hb1 := below_drewN hb nq
            generalize wr.drewN nq = w1 at hb1 ⊢
            clear t1
            go_wp2_with fail
            go_quiet (fail)
            have hb2 := below_drewN hb1 nq
            generalize w1.drewN nq = w2 at hb2 ⊢
            clear t2
            go_wp2_with fail
            go_ret
            exact ⟨ret_int HZ.out.symm, hb2⟩
      · obtain rfl : k = l.length := by omega
        have hz : ncmp a b = 0 := by
          rw [ncmp_eq, ← HA.out, ← HB.out]
          have := he.out
          rw [List.take_length, hlr, List.take_length] at this
          rw [this]
        go_wp2_with fail
        go_ret
        exact ⟨ret_int hz.symm, hb⟩
  · rcases Nat.lt_or_ge s.size t.size with h2 | h2
    · have : ncmp a b = -1 := by
        have h := pow_le_of_blen b (blen a) (by rw [← e1, ← e2]; exact h2)
        have := lt_blen a
        unfold ncmp; rw [if_pos (by omega)]
      have H := Lib.hid this; clear this e1 e2 hs ht
      go_enter Tryz.func98, Tryz.ntmps98
      go_wp2_with fail
      go_ret
      exact ⟨ret_int H.out.symm, Below.refl _ _⟩
    · have : ncmp a b = 1 := by
        have h := pow_le_of_blen a (blen b) (by rw [← e1, ← e2]; omega)
        have := lt_blen b
        unfold ncmp; rw [if_neg (by omega), if_pos (by omega)]
      have H := Lib.hid this; clear this e1 e2 hs ht
      go_enter Tryz.func98, Tryz.ntmps98
      go_wp2_with fail
      go_ret
      exact ⟨ret_int H.out.symm, Below.refl _ _⟩
end Go.Proofs.YtdhhbjmkdmbffaaGreatDoor

/- Contracts of the reference of layer 1: bits, one, Over, DivMod. -/
namespace Go.Proofs.YtdhhbjmkdmbffaaGreatDoor
open Go.RowKit Num
set_option maxRecDepth 20000
set_option linter.unusedVariables false

theorem toList_ne {s : ByteArray} (h0 : s.size ≠ 0) : (s.toList = [] → False) ∧ s.toList.isEmpty = false := by
  have e1 : s.toList = [] → False := fun e => h0 (by
    rw [ByteArray.toList_eq] at e
    show s.data.size = 0
    rw [← Array.length_toList, e]; rfl)
  refine ⟨e1, ?_⟩
  cases hh : s.toList with
  | nil => exact (e1 hh).elim
  | cons a l => rfl
theorem refbits_any (s : ByteArray) (a : Nat) (w : World) (hs : s = enc a) (hl : s.size ≤ 10000) :
    Calls Tryz.prog 187 #[.string s] w fun e w' => e = .returned (.int .i64 ((bl a : Nat) : Int)) ∧ w = w' := by
  have hsz : s.size = blen a := by rw [hs, size_enc]
  rcases Nat.eq_zero_or_pos a with h0 | h0
  · subst h0
    obtain rfl : s = ⟨#[]⟩ := hs
    clear hsz
    go_enter Tryz.func187, Tryz.ntmps187
    go_wp2
    go_ret
    exact ⟨rfl, rfl⟩
  · have hp : s.size ≠ 0 := by rw [hsz]; have := blen_eq_zero a; omega
    obtain ⟨e1, e2⟩ := toList_ne hp
    have hp2 : 0 < s.size := by omega
    have hb : bl a = 8 * (s.size - 1) + bl (s[0]'hp2).toNat := by
      have hc : Canon s := by rw [hs]; exact canon_enc a
      have hn : nv s = a := by rw [hs, nv_enc]
      obtain ⟨d⟩ := s
      obtain ⟨l⟩ := d
      cases l with
      | nil => simp [ByteArray.size] at hp
      | cons x l =>
        have hx : x ≠ 0 := by simpa [Canon] using hc
        have := bl_cons x l hx
        have hn' : nvL (x :: l) = a := hn
        rw [hn'] at this
        rw [this]
        show _ = 8 * ((x :: l).length - 1) + bl x.toNat
        rfl
    have hx := (s[0]'hp2).toNat_lt
    have HB := Lib.hid hb
    clear hb hs hsz
    obtain ⟨x, hx0⟩ : ∃ x, (s[0]'hp2).toNat = x := ⟨_, rfl⟩
    rw [hx0] at hx HB
    go_enter Tryz.func187, Tryz.ntmps187
    go_wp2
    have hbl : bl a ≤ 80008 := by
      have := (bl_le_iff x 8).2 hx
      have := HB.out
      omega
    have HBL := Lib.hid hbl
    clear hbl
    go_loop [3, 4] (fun n v => ∃ y c : Nat, v = .int .i64 y ∧ n = .int .i64 c ∧ Hid (c + bl y = bl a) ∧ y ≤ 255) (fun _ v => (intOf v).toNat)
    case atStart => exact ⟨x, 8 * (s.size - 1), rfl, by congr 1; omega, HB.out.symm, by omega⟩
    case round =>
      obtain ⟨y, c, rfl, rfl, hc, hy⟩ := hrel
      by_cases h : y = 0
      · subst h
        have hc2 : c = bl a := by simpa [bl] using hc.out
        have HC := Lib.hid hc2
        clear hc hc2
        go_wp2
        go_ret
        exact ⟨ret_int (by rw [HC.out]), rfl⟩
      · have hh := bl_half y h
        have hc2 : c + 1 + bl (y / 2) = bl a := by rw [← hc.out, hh]; omega
        have hc3 : c + 1 ≤ 80008 := by have := HBL.out; omega
        have HC := Lib.hid hc2
        clear hc hc2 hh
        go_wp2
        exact ⟨⟨y / 2, c + 1, by simp, by go_num, HC.out, by omega⟩, by simp [intOf]; omega⟩
theorem refone_any (s : ByteArray) (i : Nat) (w : World) (hs : s.size ≤ 10000) (hi : i ≤ 1000000) :
    Calls Tryz.prog 189 #[.string s, .int .i64 (i : Int)] w fun e w' => e = .returned (.bool (tb (nv s) i)) ∧ w = w' := by
  have hm : (i : Int).tmod 8 = ((i % 8 : Nat) : Int) := by rw [Int.tmod_eq_emod_of_nonneg (by omega)]; simp
  have hq : (i : Int).tdiv 8 = ((i / 8 : Nat) : Int) := by rw [Int.tdiv_eq_ediv_of_nonneg (by omega)]; simp
  have hd := dg_bit (nv s) i
  have d0 := dg_nonneg (nv s) (i / 8)
  have d1 := dg_le (nv s) (i / 8)
  have HD := Lib.hid hd
  clear hd
  go_enter Tryz.func189, Tryz.ntmps189
  go_wp2_with (go_at_call 190; refine (refAt_any _ _ _ (by omega) (by omega)).mono ?_; rintro e w' ⟨rfl, rfl⟩)
  go_loop [5, 6] (fun x k => ∃ j : Nat, j ≤ i % 8 ∧ k = .int .i64 j ∧ x = .int .i64 (dg (nv s) (i / 8) / 2 ^ j)) (fun _ k => i % 8 - (intOf k).toNat)
  case atStart => exact ⟨0, by omega, rfl, by rw [show ((i : Int) / 8).toNat = i / 8 from by omega]; simp⟩
  case round =>
    obtain ⟨j, hj, rfl, rfl⟩ := hrel
    by_cases hlt : j < i % 8
    · have g0 : 0 ≤ dg (nv s) (i / 8) / 2 ^ j := Int.ediv_nonneg d0 (Int.pow_nonneg (by omega))
      have g1 : dg (nv s) (i / 8) / 2 ^ j ≤ 255 := Int.le_trans (Int.ediv_le_self _ d0) d1
      have g2 : dg (nv s) (i / 8) / 2 ^ (j + 1) = dg (nv s) (i / 8) / 2 ^ j / 2 := by rw [Int.pow_succ, Int.ediv_ediv_of_nonneg (Int.pow_nonneg (by omega))]
      have G2 := Lib.hid g2
      clear g2
      go_wp2
      exact ⟨⟨j + 1, by omega, by go_num, by rw [G2.out]⟩, by simp [intOf]; omega⟩
    · obtain rfl : j = i % 8 := by omega
      have g0 : 0 ≤ dg (nv s) (i / 8) / 2 ^ (i % 8) := Int.ediv_nonneg d0 (Int.pow_nonneg (by omega))
      have g1 : dg (nv s) (i / 8) / 2 ^ (i % 8) ≤ 255 := Int.le_trans (Int.ediv_le_self _ d0) d1
      have hr : tb (nv s) i = (dg (nv s) (i / 8) / 2 ^ (i % 8) % 2 == 1) := by
        rw [HD.out]
        unfold tb
        rw [Bool.eq_iff_iff, decide_eq_true_eq, beq_iff_eq]
        omega
      have HR := Lib.hid hr
      clear hr
      go_wp2
      go_ret
      exact ⟨ret_bool HR.out.symm, rfl⟩

theorem refOf_int (x : Int) (w : World) (h0 : 0 ≤ x) (h : x < 18446744073709551616) :
    Calls Tryz.prog 123 #[.int .u64 x] w fun e w' => e = .returned (.string (encI x)) ∧ Below w.heap.size w w' := by
  obtain ⟨n, rfl⟩ := Int.eq_ofNat_of_zero_le h0
  exact refOf_any n w (by omega)
theorem refOf_quo (a b : Nat) (w : World) (h : a / b < 18446744073709551616) :
    Calls Tryz.prog 123 #[.int .u64 (IntKind.u64.wrap ((a : Int) / (b : Int)))] w fun e w' => e = .returned (.string (enc (a / b))) ∧ Below w.heap.size w w' := by
  have := refOf_int (IntKind.u64.wrap ((a : Int) / (b : Int))) w (wrapu_nonneg _) (wrapu_lt _)
  rw [encI_quo a b h] at this; exact this
theorem refOf_tmod (a b : Nat) (w : World) (h0 : 0 < b) (h : b < 18446744073709551616) :
    Calls Tryz.prog 123 #[.int .u64 ((a : Int).tmod (b : Int))] w fun e w' => e = .returned (.string (enc (a % b))) ∧ Below w.heap.size w w' := by
  have := refOf_int ((a : Int).tmod (b : Int)) w (tmod_nonneg a b) (tmod_lt a b h0 h)
  rw [encI_mod a b] at this; exact this
theorem refOf_mod (a b : Nat) (w : World) (h0 : 0 < b) (h : b < 18446744073709551616) :
    Calls Tryz.prog 123 #[.int .u64 ((a : Int) % (b : Int))] w fun e w' => e = .returned (.string (enc (a % b))) ∧ Below w.heap.size w w' := by
  rw [← Int.tmod_eq_emod_of_nonneg (by omega)]; exact refOf_tmod a b w h0 h
namespace Num
theorem over_lt {A z b r rr d i : Nat} (h1 : A = 2 * z + d) (hr : z % b = r) (h2 : rr = 2 * r + d) (hd : d ≤ 1) (hb : 0 < b) (h : ¬ b ≤ rr) : A % b = rr ∧ A / b * 2 ^ i = z / b * 2 ^ (i + 1) := by
  obtain ⟨h3, h4⟩ := (div_bit z b d hd hb).1 (by omega)
  rw [h1, h4, h3, hr, Nat.pow_succ, h2]
  refine ⟨rfl, ?_⟩
  rw [Nat.mul_comm 2, Nat.mul_assoc, Nat.mul_comm 2]
theorem over_ge {A z b r rr d i : Nat} (h1 : A = 2 * z + d) (hr : z % b = r) (h2 : rr = 2 * r + d) (hd : d ≤ 1) (hb : 0 < b) (h : b ≤ rr) : A % b = rr - b ∧ A / b * 2 ^ i = z / b * 2 ^ (i + 1) + 2 ^ i := by
  obtain ⟨h3, h4⟩ := (div_bit z b d hd hb).2 (by omega)
  rw [h1, h4, h3, hr, Nat.pow_succ, h2]
  refine ⟨rfl, ?_⟩
  rw [Nat.add_mul, Nat.mul_comm 2, Nat.mul_assoc, Nat.mul_comm 2, Nat.one_mul]
theorem over_row {N i y z : Nat} {f : Nat → Int} {v : Int} (hi : i / 8 < N) (hf : ∀ m, m < N → f m = dg (y * 2 ^ (i + 1)) (N - 1 - m)) (hz : z = y * 2 ^ (i + 1) + 2 ^ i) (hv : v = f (N - 1 - i / 8) + (2 ^ (i % 8) : Nat)) :
    ∀ m, m < N → upd f (N - 1 - i / 8) v m = dg z (N - 1 - m) := by
  intro m hm
  rw [hz, dg_addp]
  by_cases e : m = N - 1 - i / 8
  · rw [e, upd_same, if_pos (by omega), hv, hf _ (by omega)]
    simp
  · rw [upd_other _ _ e, if_neg (by omega), hf m hm]
end Num
theorem enc_one : enc 1 = ⟨#[1]⟩ := by decide +kernel
set_option maxHeartbeats 2000000 in
theorem refOver_any (s t : ByteArray) (a b : Nat) (w : World) (hs : s = enc a) (ht : t = enc b) (h0 : 0 < b) (ls : s.size ≤ 1000) (lt : t.size ≤ 1000) :
    Calls Tryz.prog 166 #[.string s, .string t] w fun e w' => e = .returned (.tuple #[.string (enc (a / b)), .string (enc (a % b))]) ∧ Below w.heap.size w w' := by
  have n1 : nv s = a := by rw [hs, nv_enc]
  have n2 : nv t = b := by rw [ht, nv_enc]
  have l1 : s.size = blen a := by rw [hs, size_enc]
  have l2 : t.size = blen b := by rw [ht, size_enc]
  by_cases hsh : s.size ≤ 8 ∧ t.size ≤ 8
  · obtain ⟨h1, h2⟩ := hsh
    have ba : a < 18446744073709551616 := (blen_le_iff a 8).1 (by omega)
    have bb : b < 18446744073709551616 := (blen_le_iff b 8).1 (by omega)
    have nz : ((b : Int) == 0) = false := by rw [beq_eq_false_iff_ne]; omega
    have nz2 : ¬ ((b : Int) = 0) := by omega
    have hd : a / b < 18446744073709551616 := Nat.lt_of_le_of_lt (Nat.div_le_self a b) ba
    have HN1 := Lib.hid n1
    have HN2 := Lib.hid n2
    have HD := Lib.hid hd
    clear n1 n2 l1 l2 hs ht hd
    go_enter Tryz.func166, Tryz.ntmps166
    go_wp2_with fail
    refine (refU64_any _ _ h1).mono ?_; rintro e w' ⟨rfl, rfl⟩
    go_wp2_with fail
    refine (refU64_any _ _ h2).mono ?_; rintro e w' ⟨rfl, rfl⟩
    rw [HN1.out, HN2.out]
    go_wp2_with fail
    go_region_with (first | (go_at_call 123; (with_reducible refine (refOf_quo _ _ _ HD.out).mono ?_); rintro e w' ⟨rfl, hw1⟩) | (go_at_call 123; (with_reducible refine (refOf_tmod _ _ _ h0 bb).mono ?_); rintro e w' ⟨rfl, hw2⟩) | (go_at_call 123; (with_reducible refine (refOf_mod _ _ _ h0 bb).mono ?_); rintro e w' ⟨rfl, hw2⟩))
    all_goals
      go_wp2_with fail
      go_ret2
      exact ⟨rfl, ((Below.refl w.heap.size w).drew.trans hw1).trans (hw2.mono hw1.size)⟩
  · have hbl : bl a ≤ 8000 := by
      have : bl a ≤ 8 * s.size := by
        rw [bl_le_iff, Nat.pow_mul, l1]; exact lt_blen a
      omega
    have hbits := refbits_any s a w hs (by omega)
    have hex : a < 256 ^ s.size := by rw [l1]; exact lt_blen a
    have hsm : s.size ≤ 8 → t.size ≤ 8 → False := fun x y => hsh ⟨x, y⟩
    have HN1 := Lib.hid n1
    have HN2 := Lib.hid n2
    have HL1 := Lib.hid l1
    have HL2 := Lib.hid l2
    have HS := Lib.hid hs
    have HT := Lib.hid ht
    have HEX := Lib.hid hex
    obtain ⟨i0, hi, hz0, hz1, hz2⟩ := info_parts info_u8
    clear n1 n2 l1 l2 hs ht hex hsh
    have sp : s.size ≤ 8 ∨ 8 < s.size := by omega
    have hbs : bl a ≤ 8 * s.size := by
      rw [bl_le_iff, Nat.pow_mul]; exact HEX.out
    have HBS := Lib.hid hbs
    clear hbs hbits
    have hbs : ∀ w : World, Calls Tryz.prog 187 #[.string s] w fun e w' => e = .returned (.int .i64 ((bl a : Nat) : Int)) ∧ w = w' := fun w => refbits_any s a w HS.out (by omega)
    have hrs : ∀ z, (enc (z % b)).size ≤ 1000 := fun z => by
      rw [size_enc]
      exact Nat.le_trans (blen_mono (Nat.le_of_lt (Nat.mod_lt z h0))) (by rw [← HL2.out]; exact lt)
    have HRS := Lib.hid hrs
    have HB := Lib.hid hbs
    clear hrs hbs
    rcases sp with sp | sp
    all_goals
      go_enter Tryz.func166, Tryz.ntmps166
      go_wp2_with (first | (exact (hsm (by omega) (by omega)).elim) | (at_make; refine wpList_make_arr _ rfl _ _ _ rfl 5 i0 .u8 1 Tryz.underlying88 hi hz0 hz1 hz2 _ _ _ _ s.size rfl rfl ?_ ?_ ?_ ?_ ?_ <;> first | (intro w1 ha hb hsz) | omega | (unfold maxLen; omega)))
      refine (HB.out _).mono ?_; rintro e w' ⟨rfl, rfl⟩
      go_wp2_with fail
      clear hi hz0 hz1 hz2
      go_loopw [9, 10] (fun r i wr => ∃ (j : Nat) (x : Int) (f : Nat → Int), j ≤ bl a ∧ i = .int .i64 x ∧ Hid (x = (j : Int) - 1) ∧ r = .string (enc (a / 2 ^ j % b)) ∧ Arr wr w.heap.size 5 .u8 s.size f ∧
          Hid (∀ m, m < s.size → f m = dg (a / 2 ^ j / b * 2 ^ j) (s.size - 1 - m)) ∧ Below w.heap.size w wr)
        (fun _ i _ => (intOf i + 1).toNat)
      case atStart => exact ⟨bl a, _, _, Nat.le_refl _, rfl, rfl, by rw [Nat.div_eq_of_lt (lt_bl a), Nat.zero_mod]; rfl, ha, by intro m _; rw [Nat.div_eq_of_lt (lt_bl a)]; simp [dg], hb⟩
      case round =>
        clear ha hb hsz
        obtain ⟨j, x, f, hj, rfl, hx, rfl, ha, hf, hb⟩ := hrel
        rcases j with _ | i
        · obtain rfl : x = -1 := by have := hx.out; simpa using this
          clear hx
          simp only [Nat.pow_zero, Nat.div_one, Nat.mul_one] at hf ⊢
          have hq : a / b < 256 ^ s.size := Nat.lt_of_le_of_lt (Nat.div_le_self a b) HEX.out
          have HQ := Lib.hid hq
          clear hq
          go_wp2_with fail
          refine (refTrim_arr wr w.heap.size s.size (a / b) f _ ha (by omega) hf.out HQ.out).mono ?_
          rintro e w' ⟨rfl, rfl⟩
          go_wp2_with fail
          go_ret2
          exact ⟨rfl, hb⟩
        · obtain rfl : x = i := by have := hx.out; omega
          clear hx
          have hbs := HBS.out
          obtain ⟨z, hz⟩ : ∃ z, a / 2 ^ (i + 1) = z := ⟨_, rfl⟩
          have hhb := half_bit a i
          have htv := tb_val a i
          rw [hz] at hf hhb ⊢
          have HHB := Lib.hid hhb
          have HTV := Lib.hid htv
          have hrz := HRS.out z
          obtain ⟨r, hr⟩ : ∃ r, z % b = r := ⟨_, rfl⟩
          have HRR := Lib.hid hr
          have hrb : r < b := by rw [← hr]; exact Nat.mod_lt _ h0
          rw [hr] at hrz ⊢
          clear hz hhb htv hr
          have hone : ∀ w : World, Calls Tryz.prog 189 #[.string s, .int .i64 (i : Int)] w fun e w' => e = .returned (.bool (tb a i)) ∧ w = w' := fun w => by
            have := refone_any s i w (by omega) (by omega)
            rw [HN1.out] at this; exact this
          have HONE := Lib.hid hone
          clear hone
          have zb := hb.size
          go_wp2_with fail
          refine (refPlus_any (enc r) (enc r) r r _ rfl rfl (by omega) (by omega)).mono ?_; rintro e w2 ⟨rfl, hb2⟩
          go_wp2_with fail
          refine (HONE.out _).mono ?_; rintro e w' ⟨rfl, rfl⟩
          have ha2 := ha.below hb2 ha.lt
          have hb3 := hb.trans (hb2.mono zb)
          clear ha hb hb2 HONE
          have hrl : (enc (r + r)).size ≤ 1001 := by
            have h1 : blen (r + r) ≤ blen b + 1 := by rw [blen_le_iff, Nat.pow_succ]; have := lt_blen b; omega
            rw [size_enc]; have := HL2.out; omega
          obtain ⟨d, hd⟩ : ∃ d, a / 2 ^ i % 2 = d := ⟨_, rfl⟩
          rw [hd] at HHB HTV
          have hd1 : d ≤ 1 := by omega
          clear hd
          have zc := hb3.size
          have hfin : Hid (∀ (rr : Nat), True) := fun _ => trivial
          clear hfin
          rcases Bool.eq_false_or_eq_true (tb a i) with hbit | hbit
          all_goals
            rw [hbit] at HTV ⊢
            clear hbit
            first
              | (obtain rfl : d = 1 := HTV.out
                 go_wp2_with fail
                 refine (refPlus_any (enc (r + r)) ⟨#[1]⟩ (r + r) 1 _ rfl enc_one.symm (by omega) (by decide)).mono ?_; rintro e w3 ⟨rfl, hb4⟩
                 have ha3 := ha2.below hb4 ha2.lt
                 have hb5 := hb3.trans (hb4.mono zc)
                 obtain ⟨rr, hrr⟩ : ∃ rr, r + r + 1 = rr := ⟨_, rfl⟩
                 rw [hrr]
                 have hr2 : Hid (rr = 2 * r + 1) := by show _ = _; omega
                 clear hrr ha2 hb3 hb4
                 go_wp2_with fail)
              | (obtain rfl : d = 0 := HTV.out
                 go_wp2_with fail
                 obtain ⟨w3, rfl⟩ : ∃ w3, w3 = w2 := ⟨_, rfl⟩
                 have ha3 := ha2
                 have hb5 := hb3
                 obtain ⟨rr, hrr⟩ : ∃ rr, r + r = rr := ⟨_, rfl⟩
                 rw [hrr]
                 have hr2 : Hid (rr = 2 * r + 0) := by show _ = _; omega
                 clear hrr ha2 hb3)
            have hrl2 : (enc rr).size ≤ 1001 := by
              have h1 : blen rr ≤ blen b + 1 := by rw [blen_le_iff, Nat.pow_succ]; have := lt_blen b; have := hr2.out; omega
              rw [size_enc]; have := HL2.out; omega
            have zd := hb5.size
            refine (refOrder_any (enc rr) t rr b _ rfl HT.out (by omega) (by omega)).mono ?_; rintro e w4 ⟨rfl, hb6⟩
            have ha4 := ha3.below hb6 ha3.lt
            have hb7 := hb5.trans (hb6.mono zd)
            have ze := hb7.size
            clear ha3 hb5 hb6
            by_cases hge : b ≤ rr
            · have hc := (ncmp_ge rr b).2 hge
              go_wp2_with fail
              refine (refMinus_any (enc rr) t rr b _ rfl HT.out hge (by omega)).mono ?_; rintro e w6 ⟨rfl, hb8⟩
              have ha5 := ha4.below hb8 ha4.lt
              have hb9 := hb7.trans (hb8.mono ze)
              clear ha4 hb7 hb8 hc
              have HGE := Lib.hid hge
              clear hge
              go_wp2_with fail
              go_loop [11, 12] (fun k v => ∃ m p : Nat, m ≤ i % 8 ∧ v = .int .i64 m ∧ k = .int .u8 (p : Int) ∧ Hid (2 ^ m = p)) (fun _ v => i % 8 - (intOf v).toNat)
              case atStart => exact ⟨0, 1, by omega, rfl, rfl, rfl⟩
              case round =>
                obtain ⟨m, p, hm, rfl, rfl, hp⟩ := hrel
                have hpm : 1 ≤ p ∧ p ≤ 2 ^ (i % 8) := by
                  rw [← hp.out]
                  exact ⟨Nat.two_pow_pos m, Nat.pow_le_pow_right (by omega) hm⟩
                by_cases hmi : m < i % 8
                · have hp64 : p ≤ 64 := by
                    rw [← hp.out]
                    exact Nat.pow_le_pow_right (n := 2) (j := 6) (by omega) (by omega)
                  have hp2 : 2 ^ (m + 1) = p * 2 := by rw [Nat.pow_succ, hp.out]
                  have HP2 := Lib.hid hp2
                  clear hp2 hp hpm
                  go_wp2_with fail
                  exact ⟨⟨m + 1, p * 2, by omega, by go_num, by go_num, HP2.out⟩, by simp [intOf]; omega⟩
                · obtain rfl : m = i % 8 := by omega
                  have hp128 : p ≤ 128 := by
                    rw [← hp.out]
                    exact Nat.pow_le_pow_right (n := 2) (j := 7) (by omega) (by omega)
                  have hn : s.size - 1 - i / 8 < s.size := by omega
                  have hni : i / 8 < s.size := by omega
                  have hcell := ha5.cell hn
                  have hfree := ha5.free (s.size - 1 - i / 8)
                  obtain ⟨y, hy⟩ : ∃ y, f (s.size - 1 - i / 8) = y := ⟨_, rfl⟩
                  rw [hy] at hcell
                  have hyd : y = dg (z / b * 2 ^ (i + 1)) (i / 8) := by
                    rw [← hy, hf.out _ hn]; congr 1; omega
                  have y0 : 0 ≤ y := by rw [hyd]; exact dg_nonneg _ _
                  have y1 : y + (p : Int) ≤ 255 := by
                    have := dg_mulp (z / b) i
                    rw [hyd, ← hp.out]; simpa using this
                  have hov := over_ge (i := i) HHB.out HRR.out hr2.out hd1 h0 HGE.out
                  have hrow := over_row (v := y + (p : Int)) hni hf.out hov.2 (by rw [hy, hp.out])
                  have HOV := Lib.hid hov.1
                  have HROW := Lib.hid hrow
                  clear hov hrow hp hyd hy hf hpm
                  have x1 : ((i : Int) / 8).toNat = i / 8 := by omega
                  have x2 : ((s.size : Int) - 1 - (i : Int) / 8).toNat = s.size - 1 - i / 8 := by omega
                  go_wp2_with fail
                  exact ⟨⟨i, _, _, by omega, rfl, rfl, by rw [HOV.out], ha5.set _ _, HROW.out, hb9.setCell (Nat.le_refl _) _⟩, by simp [intOf]⟩
            · have hc := (ncmp_lt rr b).2 (by omega)
              have hov := over_lt (i := i) HHB.out HRR.out hr2.out hd1 h0 hge
              have HOV := Lib.hid hov
              clear hov
              go_wp2_with fail
              exact ⟨⟨i, _, f, by omega, rfl, rfl, by rw [HOV.out.1], ha4, by rw [HOV.out.2]; exact hf.out, hb7⟩, by simp [intOf]⟩
end Go.Proofs.YtdhhbjmkdmbffaaGreatDoor

/- Contracts of the reference of layer 1: Times, fit, Small, Add, Sub, Mul, DivMod, Bits, Bit, Gcd. -/
namespace Go.Proofs.YtdhhbjmkdmbffaaGreatDoor
open Go.RowKit Num
set_option maxRecDepth 20000
set_option linter.unusedVariables false
set_option maxHeartbeats 4000000 in
theorem refTimes_long (s t : ByteArray) (a b : Nat) (w : World) (hs : s = enc a) (ht : t = enc b) (z1 : s.size ≤ 5000) (z2 : t.size ≤ 5000) (h8 : 8 < s.size + t.size) :
    Calls Tryz.prog 223 #[.string s, .string t] w fun e w' => e = .returned (.string (enc (a * b))) ∧ Below w.heap.size w w' := by
  have l1 : s.size = blen a := by rw [hs, size_enc]
  have l2 : t.size = blen b := by rw [ht, size_enc]
  have n1 : nv s = a := by rw [hs, nv_enc]
  have n2 : nv t = b := by rw [ht, nv_enc]
  have HL1 := Lib.hid l1; clear l1
  have HL2 := Lib.hid l2; clear l2
  have HN1 := Lib.hid n1; clear n1
  have HN2 := Lib.hid n2; clear n2
  clear hs ht
  obtain ⟨i0, hi, hz0, hz1, hz2⟩ := info_parts info_u8
  obtain ⟨i1, hj, hy0, hy1, hy2⟩ := info_parts info_int
  obtain ⟨n, hn⟩ : ∃ n : Nat, s.size + t.size = n := ⟨_, rfl⟩
  have hni : (s.size : Int) + (t.size : Int) = (n : Int) := by omega
  have d8 : decide ((n : Int) ≤ 8) = false := decide_eq_false (by omega)
  have HN := Lib.hid hn
  have zs' : s.size ≤ n := by omega
  have zt' : t.size ≤ n := by omega
  have zn : n ≤ 10000 := by omega
  clear hn
  go_enter Tryz.func223, Tryz.ntmps223
  go_wp2_with (at_make; refine wpList_make_arr _ rfl _ _ _ rfl 3 i1 .i64 8 Tryz.underlying71 hj hy0 hy1 hy2 _ _ _ _ (n + 1) rfl rfl ?_ ?_ ?_ ?_ ?_ <;> first | (intro w1 ha hb hsz) | omega | (unfold maxLen; omega))
  clear hj hy0 hy1 hy2 hni d8 h8
  go_loopw [7] (fun i wr => ∃ (k : Nat) (f : Nat → Int), k ≤ s.size ∧ i = .int .i64 k ∧ Arr wr w.heap.size 3 .i64 (n + 1) f ∧ Cols a b k 0 (n + 1) f ∧ Below w.heap.size w wr)
    (fun i _ => s.size - (intOf i).toNat)
  case atStart => exact ⟨0, _, by omega, rfl, ha, Cols.zero _ _ _, hb⟩
  case round =>
    clear ha hb hsz
    obtain ⟨k, f, hk, rfl, hc, hf, hb⟩ := hrel
    by_cases hlt : k < s.size
    · have q1 := dg_nonneg (nv s) k
      have q2 := dg_le (nv s) k
      go_wp2_with fail
      obtain ⟨wo, rfl⟩ : ∃ wo : World, wo = wr := ⟨_, rfl⟩
      go_loopw [8] (fun i wr => ∃ (j : Nat) (f : Nat → Int), j ≤ t.size ∧ i = .int .i64 j ∧ Arr wr w.heap.size 3 .i64 (n + 1) f ∧ Cols a b k j (n + 1) f ∧ Below w.heap.size w wr)
        (fun i _ => t.size - (intOf i).toNat)
      case atStart => exact ⟨0, f, by omega, rfl, hc, hf, hb⟩
      case round =>
        clear hc hf f hb
        obtain ⟨j, f, hj, rfl, hc, hf, hb⟩ := hrel
        by_cases hl2 : j < t.size
        · have p1 := dg_nonneg (nv t) j
          have p2 := dg_le (nv t) j
          have p3 : 0 ≤ dg (nv s) k * dg (nv t) j := Int.mul_nonneg q1 p1
          have p4 : dg (nv s) k * dg (nv t) j ≤ 65025 := by have := Int.mul_le_mul q2 p2 p1 (by omega); omega
          have f1 := hf.low (k + j)
          have f2 : f (k + j) ≤ 65025 * 10000 := by have := hf.high (k + j); split at this <;> omega
          have hkn : k + j < n + 1 := by have := HN.out; omega
          have hcell := hc.cell hkn
          have hfr := hc.free (k + j)
          go_wp2_with fail
          have g1 : IntKind.i64.wrap ((k : Int) + j) = (k : Int) + j := IntWalk.i64_in _ (by omega)
          have g2 : (0 : Int) ≤ (k : Int) + j := by omega
          have g3 : ((k : Int) + j).toNat = k + j := by omega
          have g4 : (k : Int) + j < (n : Int) + 1 := by omega
          have g5 : IntKind.i64.wrap (dg (nv s) k * dg (nv t) j) = dg (nv s) k * dg (nv t) j := IntWalk.i64_in _ (by omega)
          have g6 : IntKind.i64.wrap (f (k + j) + dg (nv s) k * dg (nv t) j) = f (k + j) + dg (nv s) k * dg (nv t) j := IntWalk.i64_in _ (by omega)
          go_region_with (go_at_call 190; refine (refAt_any _ _ _ (by omega) (by omega)).mono ?_; rintro e w' ⟨rfl, rfl⟩)
          all_goals
            clear g1 g2 g3 g4 g5 g6
            go_wp2_with fail
            rw [HN1.out, HN2.out]
            go_roundw
            case rel => exact ⟨j + 1, _, by omega, by go_num, (hc.set (k + j) _).drew, hf.step hkn, ((hb.setCell (Nat.le_refl _) _).drew)⟩
            case measure => simp [intOf]; omega
        · obtain rfl : j = t.size := by omega
          go_wp2_with fail
          go_roundw
          case rel => exact ⟨k + 1, f, by omega, by go_num, hc, hf.next (by rw [HL2.out]; exact lt_blen b), hb⟩
          case measure => simp [intOf]; omega
    · obtain rfl : k = s.size := by omega
      have hsum : ((a * b : Nat) : Int) = ds 256 f 0 (n + 1) := by
        rw [hf.sum, Nat.mod_eq_of_lt (show a < 256 ^ s.size by rw [HL1.out]; exact lt_blen a)]
        simp [Nat.mod_one]
      have hlt2 : a * b < 256 ^ n := by
        rw [← HN.out, Nat.pow_add, HL1.out, HL2.out]
        have h1 := lt_blen a
        have h2 := lt_blen b
        exact Nat.mul_lt_mul'' h1 h2
      have hf0 := hf.low
      have hf1 : ∀ m, f m ≤ 700000000 := fun m => by have := hf.high m; split at this <;> omega
      have hni : (s.size : Int) + (t.size : Int) = (n : Int) := by have := HN.out; omega
      have HSUM := Lib.hid hsum; clear hsum
      have HF0 := Lib.hid hf0; clear hf0
      have HF1 := Lib.hid hf1; clear hf1
      clear hf
      go_wp2_with (at_make; refine wpList_make_arr _ rfl _ _ _ rfl 5 i0 .u8 1 Tryz.underlying88 hi hz0 hz1 hz2 _ _ _ _ n rfl rfl ?_ ?_ ?_ ?_ ?_ <;> first | (intro w2 ha hb2 hsz) | omega | (unfold maxLen; omega))
      clear hi hz0 hz1 hz2 hni
      have hco := hc.lt
      have hne : wr.heap.size ≠ w.heap.size := by omega
      have HNE := Lib.hid hne; clear hne
      have hc2 := hc.below hb2 hco
      have HB2 : Below w.heap.size w w2 := hb.trans (hb2.mono (by omega))
      obtain ⟨wo, hwo⟩ : ∃ wo : World, wo = wr := ⟨_, rfl⟩
      rw [← hwo] at ha HNE hc hb2 hsz hco hb ⊢
      clear hb2 hb hwo hc
      go_loopw [10, 11] (fun c i wr => ∃ (k : Nat) (g : Nat → Int), k ≤ n ∧ i = .int .i64 k ∧ c = .int .i64 (colc f k) ∧ 0 ≤ colc f k ∧ colc f k ≤ 700000000 ∧ Arr wr w.heap.size 3 .i64 (n + 1) f ∧
          Arr wr wo.heap.size 5 .u8 n g ∧ Filled n (a * b) k g ∧ Below w.heap.size w wr)
        (fun _ i _ => n - (intOf i).toNat)
      case atStart => exact ⟨0, _, by omega, rfl, by rw [colc_zero], by rw [colc_zero]; omega, by rw [colc_zero]; omega, hc2, ha, Filled.zero _ _, HB2⟩
      case round =>
        clear hc2 ha hsz HB2
        obtain ⟨k, g, hk, rfl, rfl, c0, c1, hc, ha, hg, hb⟩ := hrel
        by_cases hl : k < n
        · have st := colc_step f (a * b) _ k HSUM.out (by omega)
          rw [Int.add_comm (colc f k)] at st
          have ST := Lib.hid st; clear st
          have f0' := HF0.out k
          have f1' := HF1.out k
          have hcell := hc.cell (show k < n + 1 by omega)
          have hcell2 := ha.cell (show n - 1 - k < n by omega)
          have hfr := ha.free (n - 1 - k)
          go_wp2_with fail
          rw [ST.out.1, ST.out.2]
          have b1 := ST.out.2
          exact ⟨⟨k + 1, _, by omega, by go_num, rfl, by omega, by omega, hc.other HNE.out _, ha.set _ _, hg.step hl (by omega) rfl, hb.setCell (by simp; omega) _⟩, by simp [intOf]; omega⟩
        · obtain rfl : k = n := by omega
          go_wp2_with fail
          refine (refTrim_arr wr _ k (a * b) g _ ha (by omega) hg.done hlt2).mono ?_
          rintro e w' ⟨rfl, rfl⟩
          go_wp2_with fail
          go_ret
          exact ⟨rfl, hb⟩
theorem refTimes_any (s t : ByteArray) (a b : Nat) (w : World) (hs : s = enc a) (ht : t = enc b) (z1 : s.size ≤ 5000) (z2 : t.size ≤ 5000) :
    Calls Tryz.prog 223 #[.string s, .string t] w fun e w' => e = .returned (.string (enc (a * b))) ∧ Below w.heap.size w w' := by
  rcases Nat.lt_or_ge 8 (s.size + t.size) with h8 | h8
  · exact refTimes_long s t a b w hs ht z1 z2 h8
  · have l1 : s.size = blen a := by rw [hs, size_enc]
    have l2 : t.size = blen b := by rw [ht, size_enc]
    have n1 : nv s = a := by rw [hs, nv_enc]
    have n2 : nv t = b := by rw [ht, nv_enc]
    have hlt : a * b < 18446744073709551616 := by
      have h1 := lt_blen a
      have h2 := lt_blen b
      have h3 := Nat.mul_lt_mul'' h1 h2
      rw [← Nat.pow_add, ← l1, ← l2] at h3
      have h4 : 256 ^ (s.size + t.size) ≤ 256 ^ 8 := Nat.pow_le_pow_right (by omega) h8
      omega
    have q : (a : Int) * (b : Int) = ((a * b : Nat) : Int) := (Int.natCast_mul a b).symm
    have HN1 := Lib.hid n1; clear n1
    have HN2 := Lib.hid n2; clear n2
    have Q := Lib.hid q
    clear hs ht l1 l2 q z1 z2
    have d8 : decide ((s.size : Int) + (t.size : Int) ≤ 8) = true := decide_eq_true (by omega)
    go_enter Tryz.func223, Tryz.ntmps223
    go_wp2_with fail
    refine (refU64_any s _ (by omega)).mono ?_
    rw [HN1.out]
    rintro e w1 ⟨rfl, rfl⟩
    go_wp2_with fail
    refine (refU64_any t _ (by omega)).mono ?_
    rw [HN2.out]
    rintro e w1 ⟨rfl, rfl⟩
    go_wp2_with fail
    rw [Q.out]
    refine (refOf_any (a * b) _ hlt).mono ?_
    rintro e w1 ⟨rfl, hb⟩
    go_wp2_with fail
    go_ret
    exact ⟨rfl, hb⟩
theorem refFit_any (n : Nat) (w : World) (hn : blen n ≤ 1000000) :
    Calls Tryz.prog 222 #[.string (enc n)] w fun e w' => e = .returned (.tuple #[.string (fitS n), .int .i64 (fitE n)]) ∧ w = w' := by
  have hs := size_enc n
  by_cases h : blen n ≤ 128
  · rw [fitS_ok h, fitE_ok h]
    rw [← hs] at h hn
    have HS := Lib.hid hs; clear hs
    go_enter Tryz.func222, Tryz.ntmps222
    go_wp2
    go_ret2
    exact ⟨rfl, rfl⟩
  · have e1 : fitS n = ⟨#[]⟩ := if_neg h
    have e2 : fitE n = 5 := if_neg h
    rw [e1, e2]; clear e1 e2
    rw [← hs] at h hn
    have HS := Lib.hid hs; clear hs
    go_enter Tryz.func222, Tryz.ntmps222
    go_wp2
    go_ret2
    exact ⟨rfl, rfl⟩
theorem refMul_any (s t : ByteArray) (a b : Nat) (w : World) (hs : IsN s a) (ht : IsN t b) :
    Calls Tryz.prog 221 #[.string s, .string t] w fun e w' => e = .returned (.tuple #[.string (fitS (a * b)), .int .i64 (fitE (a * b))]) ∧ Below w.heap.size w w' := by
  have v1 := hs.valid
  have v2 := ht.valid
  have z1 := hs.small
  have z2 := ht.small
  have hbl : blen (a * b) ≤ 1000000 := by
    have h1 := hs.lt
    have h2 := ht.lt
    have h3 := Nat.mul_lt_mul'' h1 h2
    rw [← Nat.pow_add] at h3
    have : blen (a * b) ≤ 256 := by rw [blen_le_iff]; exact h3
    omega
  have HB := Lib.hid hbl; clear hbl
  have HS := Lib.hid hs.eq; clear hs
  have HT := Lib.hid ht.eq; clear ht
  go_enter Tryz.func221, Tryz.ntmps221
  go_wp2_with fail
  refine (refValid_any _ _).mono ?_; rw [v1]; rintro e w' ⟨rfl, rfl⟩
  go_wp2_with fail
  refine (refValid_any _ _).mono ?_; rw [v2]; rintro e w' ⟨rfl, rfl⟩
  go_wp2_with fail
  refine (refTimes_any s t a b _ HS.out HT.out (by omega) (by omega)).mono ?_; rintro e w' ⟨rfl, hb⟩
  go_wp2_with fail
  refine (refFit_any _ _ HB.out).mono ?_; rintro e w' ⟨rfl, rfl⟩
  go_wp2_with fail
  go_ret2
  exact ⟨rfl, hb⟩
theorem refDivMod_any (s t : ByteArray) (a b : Nat) (w : World) (hs : IsN s a) (ht : IsN t b) (h0 : 0 < b) :
    Calls Tryz.prog 219 #[.string s, .string t] w fun e w' => e = .returned (.tuple #[.string (enc (a / b)), .string (enc (a % b)), .int .i64 0]) ∧ Below w.heap.size w w' := by
  have v1 := hs.valid
  have v2 := ht.valid
  have z1 := hs.small
  have z2 := ht.small
  have ne := (ht.notEmpty h0).1
  have ne' : t.toList.isEmpty = false := by rw [ht.eq]; exact toList_enc_nil h0
  have HS := Lib.hid hs.eq; clear hs
  have HT := Lib.hid ht.eq; clear ht
  go_enter Tryz.func219, Tryz.ntmps219
  go_wp2_with fail
  refine (refValid_any _ _).mono ?_; rw [v1]; rintro e w' ⟨rfl, rfl⟩
  go_wp2_with fail
  refine (refValid_any _ _).mono ?_; rw [v2]; rintro e w' ⟨rfl, rfl⟩
  go_wp2_with fail
  refine (refOver_any s t a b _ HS.out HT.out h0 (by omega) (by omega)).mono ?_; rintro e w' ⟨rfl, hb⟩
  go_wp2_with fail
  go_ret3
  exact ⟨rfl, hb⟩
theorem refSmall_yes (s : ByteArray) (a : Nat) (w : World) (hs : IsN s a) (h : s.size ≤ 8) :
    Calls Tryz.prog 220 #[.string s] w fun e w' => e = .returned (.tuple #[.int .u64 (a : Int), .bool true]) ∧ w = w' := by
  have v1 := hs.valid
  have n1 := hs.nv
  have N1 := Lib.hid n1
  clear n1 hs
  go_enter Tryz.func220, Tryz.ntmps220
  go_wp2_with fail
  refine (refValid_any _ _).mono ?_; rw [v1]; rintro e w' ⟨rfl, rfl⟩
  go_wp2_with fail
  refine (refU64_any s _ h).mono ?_; rw [N1.out]; rintro e w' ⟨rfl, rfl⟩
  go_wp2_with fail
  go_ret2
  exact ⟨rfl, rfl⟩
theorem refSmall_no (s : ByteArray) (a : Nat) (w : World) (hs : IsN s a) (h : 8 < s.size) :
    Calls Tryz.prog 220 #[.string s] w fun e w' => e = .returned (.tuple #[.int .u64 0, .bool false]) ∧ w = w' := by
  have v1 := hs.valid
  clear hs
  go_enter Tryz.func220, Tryz.ntmps220
  go_wp2_with fail
  refine (refValid_any _ _).mono ?_; rw [v1]; rintro e w' ⟨rfl, rfl⟩
  go_wp2_with fail
  go_ret2
  exact ⟨rfl, rfl⟩
theorem refBits_any (s : ByteArray) (a : Nat) (w : World) (hs : IsN s a) :
    Calls Tryz.prog 215 #[.string s] w fun e w' => e = .returned (.int .i64 (bl a : Int)) ∧ w = w' := by
  have v1 := hs.valid
  have z1 := hs.small
  have HS := Lib.hid hs.eq; clear hs
  go_enter Tryz.func215, Tryz.ntmps215
  go_wp2_with fail
  refine (refValid_any _ _).mono ?_; rw [v1]; rintro e w' ⟨rfl, rfl⟩
  go_wp2_with fail
  refine (refbits_any s a _ HS.out (by omega)).mono ?_; rintro e w' ⟨rfl, rfl⟩
  go_wp2_with fail
  go_ret
  exact ⟨rfl, rfl⟩
theorem refBit_any (s : ByteArray) (a i : Nat) (w : World) (hs : IsN s a) (hi : i ≤ 1000000) :
    Calls Tryz.prog 217 #[.string s, .int .i64 (i : Int)] w fun e w' => e = .returned (.bool (tb a i)) ∧ w = w' := by
  have v1 := hs.valid
  have z1 := hs.small
  have n1 := hs.nv
  have tbl := tb_bl a i
  have N1 := Lib.hid n1; clear n1
  have HS := Lib.hid hs.eq; clear hs
  have TB := Lib.hid tbl; clear tbl
  by_cases h : i < bl a
  · have d1 : decide ((i : Int) < (bl a : Int)) = true := decide_eq_true (by omega)
    go_enter Tryz.func217, Tryz.ntmps217
    go_wp2_with fail
    refine (refValid_any _ _).mono ?_; rw [v1]; rintro e w' ⟨rfl, rfl⟩
    go_wp2_with fail
    refine (refbits_any s a _ HS.out (by omega)).mono ?_; rintro e w' ⟨rfl, rfl⟩
    go_wp2_with fail
    refine (refone_any s i _ (by omega) hi).mono ?_; rw [N1.out]; rintro e w' ⟨rfl, rfl⟩
    go_wp2_with fail
    go_ret
    exact ⟨rfl, rfl⟩
  · have d1 : decide ((i : Int) < (bl a : Int)) = false := decide_eq_false (by omega)
    go_enter Tryz.func217, Tryz.ntmps217
    go_wp2_with fail
    refine (refValid_any _ _).mono ?_; rw [v1]; rintro e w' ⟨rfl, rfl⟩
    go_wp2_with fail
    refine (refbits_any s a _ HS.out (by omega)).mono ?_; rintro e w' ⟨rfl, rfl⟩
    go_wp2_with fail
    go_ret
    exact ⟨ret_bool (TB.out (by omega)).symm, rfl⟩
theorem refCommon_any (s t : ByteArray) (a b : Nat) (w : World) (hs : IsN s a) (ht : IsN t b) :
    Calls Tryz.prog 192 #[.string s, .string t] w fun e w' => e = .returned (.string (enc (Nat.gcd a b))) ∧ Below w.heap.size w w' := by
  have HS := Lib.hid hs
  have HT := Lib.hid ht
  clear hs ht
  go_enter Tryz.func192, Tryz.ntmps192
  go_wp2_with fail
  go_loopw [0, 1] (fun p q wr => ∃ x y : Nat, p = .string (enc x) ∧ q = .string (enc y) ∧ Hid (Nat.gcd x y = Nat.gcd a b) ∧ blen x ≤ 128 ∧ blen y ≤ 128 ∧ Below w.heap.size w wr) (fun _ q _ => strNum q)
  case atStart => exact ⟨a, b, by rw [HS.out.eq], by rw [HT.out.eq], rfl, HS.out.le, HT.out.le, Below.refl _ _⟩
  case round =>
    obtain ⟨x, y, rfl, rfl, hg, hx, hy, hb⟩ := hrel
    by_cases h0 : y = 0
    · subst h0
      rw [enc_zero]
      go_wp2_with fail
      go_ret
      refine ⟨ret_str ?_, hb⟩
      rw [← hg.out, Nat.gcd_zero_right]
    · have hp : 0 < y := by omega
      have ne := (notEmpty_enc hp).1
      have ne' := toList_enc_nil hp
      go_wp2_with fail
      refine (refOver_any (enc x) (enc y) x y _ rfl rfl hp (by rw [size_enc]; omega) (by rw [size_enc]; omega)).mono ?_
      rintro e w' ⟨rfl, hb2⟩
      go_wp2_with fail
      go_roundw
      case rel => exact ⟨y, x % y, rfl, rfl, show _ = _ from by rw [← hg.out, Nat.gcd_comm x y, Nat.gcd_rec y x, Nat.gcd_comm], hy, Nat.le_trans (blen_mono (Nat.le_of_lt (Nat.mod_lt x hp))) hy, hb.trans (hb2.mono hb.size)⟩
      case measure => simp only [strNum, nv_enc]; exact Nat.mod_lt x hp
end Go.Proofs.YtdhhbjmkdmbffaaGreatDoor
