import Derived.Test.YtjminjliomffaaaDoorNatC
import Derived.BigQuiet
import Derived.Deep.QuietTactic
import Derived.Test.YtjminjliomffaaaDoorBl
import Derived.Test.YtjminjliomffaaaDoorNatE
import Derived.Test.YtjminjliomffaaaDoorNatD
import Derived.Test.YtjminjliomffaaaDoorNatG
import Derived.Deep.RegionWith
/- Small facts on strings as bytes. -/
namespace Go.Proofs.YtjminjliomffaaaDoor
open Go.RowKit Num
theorem toList_nonempty {s : ByteArray} (h0 : s.size ≠ 0) : (s.toList = [] → False) ∧ s.toList.isEmpty = false := by
  have e1 : s.toList = [] → False := fun e => h0 (by
    rw [ByteArray.toList_eq] at e
    show s.data.size = 0
    rw [← Array.length_toList, e]; rfl)
  refine ⟨e1, ?_⟩
  cases hh : s.toList with
  | nil => exact (e1 hh).elim
  | cons a l => rfl
theorem bytes_zero {s : ByteArray} (h0 : s.size = 0) : s = ⟨#[]⟩ := by
  cases s with | mk d => simp [ByteArray.size] at h0; simp [h0]
end Go.Proofs.YtjminjliomffaaaDoor

/- Contracts of the reference of layer 1: Valid, trim, at, U64, Of, Order, Plus, Minus. -/
namespace Go.Proofs.YtjminjliomffaaaDoor
open Go.RowKit Num
set_option maxRecDepth 20000
set_option linter.unusedVariables false

theorem refValid_any (s : ByteArray) (w : World) :
    Calls Tryd.prog 38 #[.string s] w fun e w' => e = .returned (.bool (validB s)) ∧ w = w' := by
  by_cases h : s.size ≤ 128
  · by_cases h0 : s.size = 0
    · have e : s = ⟨#[]⟩ := by
        cases s with | mk d => simp [ByteArray.size] at h0; simp [h0]
      subst e
      go_enter Tryd.func38, Tryd.ntmps38
      go_wp2
      go_ret
      exact ⟨ret_bool (by simp [validB, canon_empty h0]; decide), rfl⟩
    · have hp : 0 < s.size := by omega
      have e1 : s.toList = [] → False := fun e => h0 (by
        rw [ByteArray.toList_eq] at e
        show s.data.size = 0
        rw [← Array.length_toList, e]; rfl)
      have e2 : s.toList.isEmpty = false := by
        cases hh : s.toList with
        | nil => exact (e1 hh).elim
        | cons a l => rfl
      go_enter Tryd.func38, Tryd.ntmps38
      go_wp2
      go_ret
      refine ⟨ret_bool ?_, rfl⟩
      have := canon_pos hp
      rw [Bool.eq_iff_iff]; simp [validB, h, this]
  · go_enter Tryd.func38, Tryd.ntmps38
    go_wp2
    go_ret
    exact ⟨ret_bool (by simp [validB, h]), rfl⟩

theorem refTrim_any (b cap : Nat) (l : List UInt8) (w : World) (hc : l.length ≤ cap) (hc2 : cap ≤ 2000000) (hb : BytesAt w b 0 l) :
    Calls Tryd.prog 61 #[.slice (some ⟨b, 0, none⟩) l.length cap] w fun e w' => e = .returned (.string (enc (nvL l))) ∧ w = w' := by
  go_enter Tryd.func61, Tryd.ntmps61
  go_wp2
  go_loop [3] (fun v => ∃ k : Nat, k ≤ l.length ∧ v = .int .i64 k ∧ Hid (nvL (l.drop k) = nvL l)) (fun v => l.length - (intOf v).toNat)
  case atStart => exact ⟨0, by omega, rfl, rfl⟩
  case round =>
    obtain ⟨k, hk, rfl, hv⟩ := hrel
    by_cases hlt : k < l.length
    · have hc0 := hb k hlt
      rw [Nat.zero_add] at hc0
      obtain ⟨x, hx⟩ : ∃ x, l[k] = x := ⟨_, rfl⟩
      rw [hx] at hc0
      have hd : l.drop k = x :: l.drop (k + 1) := by rw [← hx]; exact List.drop_eq_getElem_cons hlt
      rw [hd] at hv
      by_cases hz : x = 0
      · subst hz
        have hc0' : w.cell? ⟨b, k, none⟩ = some (.int .u8 0) := hc0
        clear hc0
        have hv1 : Hid (nvL (l.drop (k + 1)) = nvL l) := by rw [← hv.out, nvL_cons]; simp [Hid]
        have HB := Lib.hid hb
        clear hb hx hd
        go_wp2
        go_round
        case rel => exact ⟨k + 1, by omega, by go_num, hv1⟩
        case measure => simp [intOf]; omega
      · have hx' : ((x.toNat : Int) == 0) = false := by
          rw [beq_eq_false_iff_ne]; intro e
          exact hz (UInt8.toNat_inj.1 (by simpa using e))
        have hbr : BytesAt w b k (x :: l.drop (k + 1)) := by
          intro j hj
          have hj2 : k + j < l.length := by simp at hj; omega
          have := hb (k + j) hj2
          rw [Nat.zero_add] at this
          rw [this]
          congr 2
          have e : (x :: l.drop (k + 1))[j] = (l.drop k)[j]'(by rw [hd]; exact hj) := by simp only [hd]
          rw [e, List.getElem_drop]
        have hcv := conv_back w b k (cap - k) (x :: l.drop (k + 1)) hbr
        rw [show (x :: l.drop (k + 1)).length = l.length - k from by simp; omega] at hcv
        have hck : k ≠ cap := by omega
        clear hb hx hd hbr
        have HV := Lib.hid hv.out
        clear hv
        go_wp2
        go_ret
        refine ⟨ret_str ?_, rfl⟩
        rw [← HV.out]; unfold enc; rw [encL_nvL _ (by simp [hz])]
    · obtain rfl : k = l.length := by omega
      have hn : nvL l = 0 := by rw [← hv.out]; simp [nvL]
      have HN := Lib.hid hn
      clear hv hn hb
      have hcv : ∀ o c, (convert 51 27 (.slice (some ⟨b, o, none⟩) 0 c)).run Tryd.prog w = .ok (.string ⟨#[]⟩) w := fun o c => conv_back w b o c [] (fun j hj => by simp at hj)
      by_cases hcl : cap = l.length
      · subst hcl
        go_wp2
        go_ret
        exact ⟨ret_str (by rw [HN.out]; rfl), rfl⟩
      · go_wp2
        go_ret
        exact ⟨ret_str (by rw [HN.out]; rfl), rfl⟩
theorem refTrim_arr (w : World) (b N n : Nat) (f : Nat → Int) (T : TypeId) (ha : Arr w b T .u8 N f) (hN : N ≤ 1000000) (hf : ∀ j, j < N → f j = dg n (N - 1 - j)) (hn : n < 256 ^ N) :
    Calls Tryd.prog 61 #[.slice (some ⟨b, 0, none⟩) N N] w fun e w' => e = .returned (.string (enc n)) ∧ w = w' := by
  have hl := length_bytesL N n
  have hb : BytesAt w b 0 (bytesL N n) := by
    intro j hj
    rw [hl] at hj
    rw [Nat.zero_add, ha.cell hj, hf j hj]
    simp [bytesL, dg]
  have := refTrim_any b N (bytesL N n) w (by omega) (by omega) hb
  rw [hl, nvL_bytesL, Nat.mod_eq_of_lt hn] at this
  exact this




theorem nvL_take_step (l : List UInt8) (k : Nat) (h : k < l.length) : nvL (l.take (k + 1)) = nvL (l.take k) * 256 + l[k].toNat := by
  rw [List.take_succ_eq_append_getElem h, nvL_append]
  simp [nvL]
theorem nvL_take_lt (l : List UInt8) (k : Nat) (h : k ≤ 8) : nvL (l.take k) < 18446744073709551616 := by
  have h1 := nvL_lt (l.take k)
  have h2 : 256 ^ (l.take k).length ≤ 256 ^ 8 := Nat.pow_le_pow_right (by omega) (by simp; omega)
  omega
theorem refU64_any (s : ByteArray) (w : World) (hs : s.size ≤ 8) :
    Calls Tryd.prog 39 #[.string s] w fun e w' => e = .returned (.int .u64 ((nv s : Nat) : Int)) ∧ w = w' := by
  obtain ⟨l, rfl⟩ : ∃ l : List UInt8, s = ⟨l.toArray⟩ := ⟨s.data.toList, by simp⟩
  have hl : (⟨l.toArray⟩ : ByteArray).size = l.length := by simp [ByteArray.size]
  have hnv : nv ⟨l.toArray⟩ = nvL l := by simp [nv]
  have HNV := Lib.hid hnv; clear hnv
  go_enter Tryd.func39, Tryd.ntmps39
  go_wp2
  go_loop [3, 4] (fun n i => ∃ k : Nat, k ≤ l.length ∧ i = .int .i64 k ∧ n = .int .u64 ((nvL (l.take k) : Nat) : Int)) (fun _ i => l.length - (intOf i).toNat)
  case atStart => exact ⟨0, by omega, rfl, by simp [nvL]⟩
  case round =>
    obtain ⟨k, hk, rfl, rfl⟩ := hrel
    by_cases hlt : k < l.length
    · have st := nvL_take_step l k hlt
      have b1 := nvL_take_lt l (k + 1) (by omega)
      obtain ⟨x, hx⟩ : ∃ x, nvL (l.take k) = x := ⟨_, rfl⟩
      rw [hx] at st ⊢
      rw [st] at b1
      have hb := l[k].toNat_lt
      have ev : IntKind.u64.wrap ((x : Int) * 256 + IntKind.u64.wrap (((⟨l.toArray⟩ : ByteArray)[k]'(by rw [hl]; exact hlt)).toNat : Int)) = ((x * 256 + l[k].toNat : Nat) : Int) := by
        rw [show ((⟨l.toArray⟩ : ByteArray)[k]'(by rw [hl]; exact hlt)) = l[k] from rfl, wraps_u64 (l[k].toNat : Int) (by omega) (by omega), wraps_u64 _ (by omega) (by omega)]
        omega
      have EV := Lib.hid ev
      clear ev
      go_wp2
      exact ⟨⟨k + 1, by omega, by go_num, by rw [EV.out, st]⟩, by simp [intOf]; omega⟩
    · obtain rfl : k = l.length := by omega
      rw [List.take_length]
      go_wp2
      go_ret
      exact ⟨ret_int (by rw [HNV.out]), rfl⟩

theorem refOf_any (n : Nat) (w : World) (hn : n < 18446744073709551616) :
    Calls Tryd.prog 40 #[.int .u64 (n : Int)] w fun e w' => e = .returned (.string (enc n)) ∧ Below w.heap.size w w' := by
  have hn8 : n < 256 ^ 8 := by omega
  have HN := Lib.hid hn8; clear hn8
  obtain ⟨i0, hi, hz0, hz1, hz2⟩ := info_parts info_u8
  go_enter Tryd.func40, Tryd.ntmps40
  go_wp2_with (at_make; refine wpList_make_arr _ rfl _ _ _ rfl 5 i0 .u8 1 Tryd.underlying51 hi hz0 hz1 hz2 _ _ _ _ 8 rfl rfl ?_ ?_ ?_ ?_ ?_ <;> first | (intro w1 ha hb hsz) | omega | (unfold maxLen; omega))
  clear hi hz0 hz1 hz2
  go_loopw [0, 4] (fun c i wr => ∃ (j : Nat) (x : Int) (f : Nat → Int), j ≤ 8 ∧ i = .int .i64 x ∧ Hid (x = (j : Int) - 1) ∧ c = .int .u64 ((n / 256 ^ (8 - j) : Nat) : Int) ∧ Arr wr w.heap.size 5 .u8 8 f ∧
    Filled 8 n (8 - j) f ∧ Below w.heap.size w wr)
    (fun _ i _ => (intOf i + 1).toNat)
  case atStart => exact ⟨8, _, _, by omega, rfl, rfl, by simp, ha, Filled.zero _ _, hb⟩
  case round =>
    clear ha hb hsz
    obtain ⟨j, x, f, hj, rfl, hx, rfl, ha, hf, hb⟩ := hrel
    rcases j with _ | i
    · obtain rfl : x = -1 := by have := hx.out; simpa using this
      clear hx
      have hf := hf.done
      go_wp2_with fail
      refine (refTrim_arr wr w.heap.size 8 n f _ ha (by omega) hf HN.out).mono ?_
      rintro e w' ⟨rfl, rfl⟩
      go_wp2
      go_ret
      exact ⟨rfl, hb⟩
    · obtain rfl : x = i := by have := hx.out; omega
      clear hx
      have hc := ha.cell (show i < 8 by omega)
      have hfr := ha.free i
      have hq : n / 256 ^ (8 - (i + 1)) ≤ n := Nat.div_le_self _ _
      have hs1 : n / 256 ^ (8 - i) = n / 256 ^ (8 - (i + 1)) / 256 := by rw [Nat.div_div_eq_div_mul, ← Nat.pow_succ]; congr 2; omega
      have hd : ((n / 256 ^ (8 - (i + 1)) : Nat) : Int) % 256 = dg n (8 - (i + 1)) := by unfold dg; simp
      have hst := hf.step (v := dg n (8 - (i + 1))) (i := i) (by omega) (by omega) rfl
      rw [show 8 - (i + 1) + 1 = 8 - i from by omega] at hst
      obtain ⟨y, hy⟩ : ∃ y, n / 256 ^ (8 - (i + 1)) = y := ⟨_, rfl⟩
      rw [hy] at hs1 hd hq ⊢
      have HST := Lib.hid hst
      have HD := Lib.hid hd
      have HS1 := Lib.hid hs1
      clear hst hd hs1 hy hf
      go_wp2_with fail
      rw [HD.out]
      exact ⟨⟨i, _, _, by omega, rfl, rfl, by rw [HS1.out]; simp, ha.set i _, HST.out, hb.setCell (Nat.le_refl _) _⟩, by simp [intOf]⟩

end Go.Proofs.YtjminjliomffaaaDoor

/- Contracts of the reference of layer 1: bits, one, Over, DivMod. -/
namespace Go.Proofs.YtjminjliomffaaaDoor
open Go.RowKit Num
set_option maxRecDepth 20000
set_option linter.unusedVariables false

theorem toList_ne {s : ByteArray} (h0 : s.size ≠ 0) : (s.toList = [] → False) ∧ s.toList.isEmpty = false := by
  have e1 : s.toList = [] → False := fun e => h0 (by
    rw [ByteArray.toList_eq] at e
    show s.data.size = 0
    rw [← Array.length_toList, e]; rfl)
  refine ⟨e1, ?_⟩
  cases hh : s.toList with
  | nil => exact (e1 hh).elim
  | cons a l => rfl

theorem refOf_int (x : Int) (w : World) (h0 : 0 ≤ x) (h : x < 18446744073709551616) :
    Calls Tryd.prog 40 #[.int .u64 x] w fun e w' => e = .returned (.string (encI x)) ∧ Below w.heap.size w w' := by
  obtain ⟨n, rfl⟩ := Int.eq_ofNat_of_zero_le h0
  exact refOf_any n w (by omega)
theorem refOf_quo (a b : Nat) (w : World) (h : a / b < 18446744073709551616) :
    Calls Tryd.prog 40 #[.int .u64 (IntKind.u64.wrap ((a : Int) / (b : Int)))] w fun e w' => e = .returned (.string (enc (a / b))) ∧ Below w.heap.size w w' := by
  have := refOf_int (IntKind.u64.wrap ((a : Int) / (b : Int))) w (wrapu_nonneg _) (wrapu_lt _)
  rw [encI_quo a b h] at this; exact this
theorem refOf_tmod (a b : Nat) (w : World) (h0 : 0 < b) (h : b < 18446744073709551616) :
    Calls Tryd.prog 40 #[.int .u64 ((a : Int).tmod (b : Int))] w fun e w' => e = .returned (.string (enc (a % b))) ∧ Below w.heap.size w w' := by
  have := refOf_int ((a : Int).tmod (b : Int)) w (tmod_nonneg a b) (tmod_lt a b h0 h)
  rw [encI_mod a b] at this; exact this
theorem refOf_mod (a b : Nat) (w : World) (h0 : 0 < b) (h : b < 18446744073709551616) :
    Calls Tryd.prog 40 #[.int .u64 ((a : Int) % (b : Int))] w fun e w' => e = .returned (.string (enc (a % b))) ∧ Below w.heap.size w w' := by
  rw [← Int.tmod_eq_emod_of_nonneg (by omega)]; exact refOf_tmod a b w h0 h
end Go.Proofs.YtjminjliomffaaaDoor

/- Contracts of the reference of layer 1: Times, fit, Small, Add, Sub, Mul, DivMod, Bits, Bit, Gcd. -/
namespace Go.Proofs.YtjminjliomffaaaDoor
open Go.RowKit Num
set_option maxRecDepth 20000
set_option linter.unusedVariables false
theorem refSmall_yes (s : ByteArray) (a : Nat) (w : World) (hs : IsN s a) (h : s.size ≤ 8) :
    Calls Tryd.prog 16 #[.string s] w fun e w' => e = .returned (.tuple #[.int .u64 (a : Int), .bool true]) ∧ w = w' := by
  have v1 := hs.valid
  have n1 := hs.nv
  have N1 := Lib.hid n1
  clear n1 hs
  go_enter Tryd.func16, Tryd.ntmps16
  go_wp2_with fail
  refine (refValid_any _ _).mono ?_; rw [v1]; rintro e w' ⟨rfl, rfl⟩
  go_wp2_with fail
  refine (refU64_any s _ h).mono ?_; rw [N1.out]; rintro e w' ⟨rfl, rfl⟩
  go_wp2_with fail
  go_ret2
  exact ⟨rfl, rfl⟩
theorem refSmall_no (s : ByteArray) (a : Nat) (w : World) (hs : IsN s a) (h : 8 < s.size) :
    Calls Tryd.prog 16 #[.string s] w fun e w' => e = .returned (.tuple #[.int .u64 0, .bool false]) ∧ w = w' := by
  have v1 := hs.valid
  clear hs
  go_enter Tryd.func16, Tryd.ntmps16
  go_wp2_with fail
  refine (refValid_any _ _).mono ?_; rw [v1]; rintro e w' ⟨rfl, rfl⟩
  go_wp2_with fail
  go_ret2
  exact ⟨rfl, rfl⟩
end Go.Proofs.YtjminjliomffaaaDoor
