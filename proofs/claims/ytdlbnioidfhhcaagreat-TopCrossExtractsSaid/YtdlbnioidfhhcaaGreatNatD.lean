/- Contracts of the package natural: product, Mul. -/
import Derived.Test.YtdlbnioidfhhcaaGreatNatC
import Derived.Test.YtdlbnioidfhhcaaGreatBits64
import Derived.Deep.RegionWith
namespace Go.Proofs.YtdlbnioidfhhcaaGreat
open Go.RowKit Num
set_option maxRecDepth 20000

/-- the columns of a product: i whole rounds, and k steps of the next one -/
structure Cols (a b i k N : Nat) (f : Nat → Int) : Prop where
  sum : ds 256 f 0 N = (((a % 256 ^ i) * b + 256 ^ i * ((a / 256 ^ i % 256) * (b % 256 ^ k)) : Nat) : Int)
  low : ∀ m, 0 ≤ f m
  high : ∀ m, f m ≤ 65025 * i + if m < i + k then 65025 else 0
theorem Cols.zero (a b N : Nat) : Cols a b 0 0 N (fun _ => 0) :=
  ⟨by rw [ds_zero (fun _ _ => rfl)]; simp [Nat.mod_one], fun _ => by omega, fun m => by simp⟩
theorem Cols.step {a b i k N : Nat} {f : Nat → Int} (h : Cols a b i k N f) (hN : i + k < N) : Cols a b i (k + 1) N (upd f (i + k) (f (i + k) + dg a i * dg b k)) := by
  have b1 := dg_nonneg a i
  have b2 := dg_le a i
  have b3 := dg_nonneg b k
  have b4 := dg_le b k
  have b5 : 0 ≤ dg a i * dg b k := Int.mul_nonneg b1 b3
  have b6 : dg a i * dg b k ≤ 65025 := by have := Int.mul_le_mul b2 b4 b3 (by omega); omega
  refine ⟨?_, fun m => ?_, fun m => ?_⟩
  · have e := ds_upd_in 256 f 0 (i + k) (f (i + k) + dg a i * dg b k) N hN
    rw [Nat.zero_add] at e
    rw [e, h.sum, Nat.mod_pow_succ]
    unfold dg
    have e2 : f (i + k) + ((a / 256 ^ i % 256 : Nat) : Int) * ((b / 256 ^ k % 256 : Nat) : Int) - f (i + k) = (((a / 256 ^ i % 256) * (b / 256 ^ k % 256) : Nat) : Int) := by
      rw [Int.natCast_mul]; omega
    rw [e2, show ((256 : Int) ^ (i + k)) = ((256 ^ (i + k) : Nat) : Int) from by simp, ← Int.natCast_mul, ← Int.natCast_add]
    congr 1
    rw [Nat.pow_add, Nat.mul_add, Nat.mul_add, Nat.add_assoc]
    congr 2
    simp only [Nat.mul_left_comm, Nat.mul_comm]
  · by_cases e : m = i + k
    · rw [e, upd_same]; have := h.low (i + k); omega
    · rw [upd_other _ _ e]; exact h.low m
  · by_cases e : m = i + k
    · rw [e, upd_same]
      have := h.high (i + k)
      rw [if_neg (by omega)] at this
      rw [if_pos (by omega)]; omega
    · rw [upd_other _ _ e]
      have := h.high m
      by_cases e2 : m < i + k
      · rw [if_pos e2] at this; rw [if_pos (by omega)]; exact this
      · rw [if_neg e2] at this; rw [if_neg (by omega)]; exact this
theorem Cols.next {a b i k N : Nat} {f : Nat → Int} (h : Cols a b i k N f) (hb : b < 256 ^ k) : Cols a b (i + 1) 0 N f := by
  refine ⟨?_, h.low, fun m => ?_⟩
  · rw [h.sum, Nat.mod_eq_of_lt hb, Nat.mod_pow_succ]
    congr 1
    rw [Nat.add_mul, Nat.pow_zero, Nat.mod_one, Nat.mul_zero, Nat.mul_zero, Nat.add_zero, Nat.mul_assoc]
  · have := h.high m
    split at this <;> split <;> push_cast <;> omega

theorem clear_type : True := trivial
theorem product_any (s t : ByteArray) (a b : Nat) (cb : Nat) (f0 : Nat → Int) (w : World) (hs : IsN s a) (ht : IsN t b) (hc : Arr w cb 179 .i64 256 f0) :
    Calls Tryz.prog 133 #[.string s, .string t, .pointer (some ⟨cb, 0, none⟩)] w fun e w' => e = .returned (.string (enc (a * b))) ∧ Below cb w w' := by
  have z1 := hs.small
  have z2 := ht.small
  have HS := Lib.hid hs; clear hs
  have HT := Lib.hid ht; clear ht
  have hcb := hc.lt
  obtain ⟨i0, hi, hz0, hz1, hz2⟩ := info_parts info_u8
  obtain ⟨i1, hj, hy0, hy1, hy2⟩ := info_parts info_int
  go_enter Tryz.func133, Tryz.ntmps133
  go_wp2_with ((with_reducible refine wpList_clear_arr (o := ⟨none, _, _, _, _, _⟩) rfl (.tmp 16) 162 rfl 3 179 i1 .i64 255 256 cb f0 Tryz.underlying162 hj hy0 rfl hc ?_); intro w1 hc1 hb1)
  clear hj hy0 hy1 hy2 hc
  go_loopw [19] (fun i wr => ∃ (k : Nat) (f : Nat → Int), k ≤ s.size ∧ i = .int .i64 k ∧ Arr wr cb 179 .i64 256 f ∧ Cols a b k 0 (s.size + t.size) f ∧ (∀ B, B ≤ cb → Below B w wr))
    (fun i _ => s.size - (intOf i).toNat)
  case atStart => exact ⟨0, _, by omega, rfl, hc1, Cols.zero _ _ _, hb1⟩
  case round =>
    clear hc1 hb1
    obtain ⟨k, f, hk, rfl, hc, hf, hb⟩ := hrel
    by_cases hlt : k < s.size
    · have q1 := dg_nonneg (nv s) k
      have q2 := dg_le (nv s) k
      have HB := Lib.hid hb; clear hb
      go_wp2_with (go_at_call 83; refine (digit_any _ _ _ (by omega) (by omega)).mono ?_; rintro e w' ⟨rfl, rfl⟩)
      obtain ⟨wo, rfl⟩ : ∃ wo : World, wo = wr := ⟨_, rfl⟩
      go_loopw [27] (fun i wr => ∃ (j : Nat) (f : Nat → Int), j ≤ t.size ∧ i = .int .i64 j ∧ Arr wr cb 179 .i64 256 f ∧ Cols a b k j (s.size + t.size) f ∧ Hid (∀ B, B ≤ cb → Below B w wr))
        (fun i _ => t.size - (intOf i).toNat)
      case atStart => exact ⟨0, f, by omega, rfl, hc, hf, HB⟩
      case round =>
        clear hc hf f HB
        obtain ⟨j, f, hj, rfl, hc, hf, HB⟩ := hrel
        by_cases hl2 : j < t.size
        · have p1 := dg_nonneg (nv t) j
          have p2 := dg_le (nv t) j
          have p3 : 0 ≤ dg (nv s) k * dg (nv t) j := Int.mul_nonneg q1 p1
          have p4 : dg (nv s) k * dg (nv t) j ≤ 65025 := by have := Int.mul_le_mul q2 p2 p1 (by omega); omega
          have f1 := hf.low (k + j)
          have f2 : f (k + j) ≤ 65025 * 128 := by have := hf.high (k + j); split at this <;> omega
          have hcell := hc.cell (show k + j < 256 by omega)
          have hfr := hc.free (k + j)
          go_wp2_with fail
          have g1 : IntKind.i64.wrap ((k : Int) + j) = (k : Int) + j := IntWalk.i64_in _ (by omega)
          have g2 : (0 : Int) ≤ (k : Int) + j := by omega
          have g3 : ((k : Int) + j).toNat = k + j := by omega
          have g4 : (k : Int) + j < 256 := by omega
          have g5 : IntKind.i64.wrap (dg (nv s) k * dg (nv t) j) = dg (nv s) k * dg (nv t) j := IntWalk.i64_in _ (by omega)
          have g6 : IntKind.i64.wrap (f (k + j) + dg (nv s) k * dg (nv t) j) = f (k + j) + dg (nv s) k * dg (nv t) j := IntWalk.i64_in _ (by omega)
          go_region_with (go_at_call 83; refine (digit_any _ _ _ (by omega) (by omega)).mono ?_; rintro e w' ⟨rfl, rfl⟩)
          all_goals
            clear g1 g2 g3 g4 g5 g6
            go_wp2_with fail
            rw [HS.out.nv, HT.out.nv]
            go_roundw
            case rel => exact ⟨j + 1, _, by omega, by go_num, (hc.set (k + j) _).drew, hf.step (by omega), fun B hB => ((HB.out B hB).setCell hB _).drew⟩
            case measure => simp [intOf]; omega
        · obtain rfl : j = t.size := by omega
          go_wp2_with fail
          go_roundw
          case rel => exact ⟨k + 1, f, by omega, by go_num, hc, hf.next (by rw [HT.out.size]; exact lt_blen b), HB.out⟩
          case measure => simp [intOf]; omega
    · obtain rfl : k = s.size := by omega
      have hsum : ((a * b : Nat) : Int) = ds 256 f 0 (s.size + t.size) := by
        rw [hf.sum, Nat.mod_eq_of_lt (show a < 256 ^ s.size by rw [HS.out.size]; exact lt_blen a)]
        simp [Nat.mod_one]
      have hlt2 : a * b < 256 ^ (s.size + t.size) := by
        rw [Nat.pow_add, HS.out.size, HT.out.size]
        have h1 := lt_blen a
        have h2 := lt_blen b
        exact Nat.mul_lt_mul'' h1 h2
      have hf0 := hf.low
      have hf1 : ∀ m, f m ≤ 8400000 := fun m => by have := hf.high m; split at this <;> omega
      have HSUM := Lib.hid hsum; clear hsum
      have HF0 := Lib.hid hf0; clear hf0
      have HF1 := Lib.hid hf1; clear hf1
      have HB := Lib.hid hb; clear hb
      clear hf
      go_wp2_with (at_make; refine wpList_make_arr _ rfl _ _ _ rfl 5 i0 .u8 1 Tryz.underlying115 hi hz0 hz1 hz2 _ _ _ _ (s.size + t.size) rfl rfl ?_ ?_ ?_ ?_ ?_ <;> first | (intro w2 ha hb2 hsz) | omega | (unfold maxLen; omega))
      clear hi hz0 hz1 hz2
      have hco := hc.lt
      have hne : wr.heap.size ≠ cb := by omega
      have HNE := Lib.hid hne; clear hne
      have hc2 := hc.below hb2 hco
      have HB2 : Below cb w w2 := (HB.out cb (Nat.le_refl _)).trans (hb2.mono (by omega))
      obtain ⟨wo, hwo⟩ : ∃ wo : World, wo = wr := ⟨_, rfl⟩
      rw [← hwo] at ha HNE hc hb2 hsz hco HB ⊢
      clear hb2 HB hwo hc
      go_loopw [12, 55] (fun c i wr => ∃ (k : Nat) (g : Nat → Int), k ≤ s.size + t.size ∧ i = .int .i64 k ∧ c = .int .i64 (colc f k) ∧ 0 ≤ colc f k ∧ colc f k ≤ 8400000 ∧ Arr wr cb 179 .i64 256 f ∧
          Arr wr wo.heap.size 5 .u8 (s.size + t.size) g ∧ Filled (s.size + t.size) (a * b) k g ∧ Below cb w wr)
        (fun _ i _ => s.size + t.size - (intOf i).toNat)
      case atStart => exact ⟨0, _, by omega, rfl, by rw [colc_zero], by rw [colc_zero]; omega, by rw [colc_zero]; omega, hc2, ha, Filled.zero _ _, HB2⟩
      case round =>
        clear hc2 ha hsz HB2
        obtain ⟨k, g, hk, rfl, rfl, c0, c1, hc, ha, hg, hb⟩ := hrel
        by_cases hl : k < s.size + t.size
        · have st := colc_step f (a * b) _ k HSUM.out hl
          have ST := Lib.hid st; clear st
          have f0' := HF0.out k
          have f1' := HF1.out k
          have hcell := hc.cell (show k < 256 by omega)
          have hcell2 := ha.cell (show s.size + t.size - 1 - k < s.size + t.size by omega)
          have hfr := ha.free (s.size + t.size - 1 - k)
          go_wp2_with fail
          rw [ST.out.1, ST.out.2]
          have b1 := ST.out.2
          go_roundw
          case rel => exact ⟨k + 1, _, by omega, by go_num, rfl, by omega, by omega, hc.other HNE.out _, ha.set _ _, hg.step hl (by omega) rfl, hb.setCell (by simp; omega) _⟩
          case measure => simp [intOf]; omega
        · obtain rfl : k = s.size + t.size := by omega
          go_wp2_with (go_at_call 58; refine (trimmed_arr wr _ (s.size + t.size) (a * b) g ha (by omega) hg.done hlt2).mono ?_; rintro e w' ⟨rfl, rfl⟩)
          go_ret
          exact ⟨rfl, hb⟩

theorem info256 : (Tryz.prog.info? 179).bind (fun i => i.zero.map fun z => z.cells) = some (icells .i64 256 (fun _ => 0)) := by kernel_rfl
theorem zero256 : ∃ i z, Tryz.prog.info? 179 = some i ∧ i.zero = some z ∧ z.cells = icells .i64 256 (fun _ => 0) := by
  have h := info256
  cases h1 : Tryz.prog.info? 179 with
  | none => rw [h1] at h; cases h
  | some i =>
    cases h2 : i.zero with
    | none => rw [h1] at h; simp [h2] at h
    | some z => rw [h1] at h; simp [h2] at h; exact ⟨i, z, rfl, h2, h⟩
theorem Mul_small (s t : ByteArray) (a b : Nat) (w : World) (hs : IsN s a) (ht : IsN t b) (h1 : s.size ≤ 8) (h2 : t.size ≤ 8) (h3 : (hi64 (sm a) (sm b) == 0) = true) :
    Calls Tryz.prog 108 #[.string s, .string t] w fun e w' => e = .returned (.tuple #[.string (enc (a * b)), .int .i64 0]) ∧ Below w.heap.size w w' := by
  have v1 := hs.valid
  have v2 := ht.valid
  have ea : sm a = a := sm_short (by rw [← hs.size]; exact h1)
  have eb : sm b = b := sm_short (by rw [← ht.size]; exact h2)
  have l1 := sm_lt a
  have l2 := sm_lt b
  have HL1 := Lib.hid l1; clear l1
  have HL2 := Lib.hid l2; clear l2
  have hlo : lo64 (sm a) (sm b) = ((a * b : Nat) : Int) := by
    simp [hi64] at h3
    unfold lo64
    rw [Nat.mod_eq_of_lt (by omega), ea, eb]
  have hlt : a * b < 18446744073709551616 := by
    simp [hi64] at h3; rw [ea, eb] at h3; omega
  have HLO := Lib.hid hlo; clear hlo
  have HLT := Lib.hid hlt; clear hlt
  have HS := Lib.hid hs; clear hs
  have HT := Lib.hid ht; clear ht
  clear ea eb
  go_enter Tryz.func108, Tryz.ntmps108
  go_wp2_with fail
  refine (Valid_any _ _).mono ?_; rintro e w' ⟨rfl, rfl⟩
  go_wp2_with fail
  refine (Valid_any _ _).mono ?_; rintro e w' ⟨rfl, rfl⟩
  go_wp2_with fail
  refine (Small_any _ _ _ HS.out).mono ?_; rintro e w' ⟨rfl, rfl⟩
  go_wp2_with fail
  refine (Small_any _ _ _ HT.out).mono ?_; rintro e w' ⟨rfl, rfl⟩
  go_wp2_with fail
  refine (Mul64_any _ _ HL1.out HL2.out _).mono ?_; rintro e w' ⟨rfl, rfl⟩
  go_wp2_with fail
  rw [HLO.out]
  refine (Of_any _ _ HLT.out).mono ?_; rintro e w' ⟨rfl, hb⟩
  go_wp2_with fail
  go_ret2
  exact ⟨rfl, hb⟩
theorem Mul_large (s t : ByteArray) (a b : Nat) (w : World) (hs : IsN s a) (ht : IsN t b) (hc : 8 < s.size ∨ 8 < t.size ∨ (hi64 (sm a) (sm b) == 0) = false) :
    Calls Tryz.prog 108 #[.string s, .string t] w fun e w' => e = .returned (.tuple #[.string (fitS (a * b)), .int .i64 (fitE (a * b))]) ∧ Below w.heap.size w w' := by
  have v1 := hs.valid
  have v2 := ht.valid
  have l1 := sm_lt a
  have l2 := sm_lt b
  have HL1 := Lib.hid l1; clear l1
  have HL2 := Lib.hid l2; clear l2
  have hbl : blen (a * b) ≤ 256 := by
    rw [blen_le_iff]
    have h1 := hs.lt
    have h2 := ht.lt
    have h3 := Nat.mul_lt_mul'' h1 h2
    rw [← Nat.pow_add] at h3
    exact h3
  have HBL := Lib.hid hbl; clear hbl
  have HS := Lib.hid hs; clear hs
  have HT := Lib.hid ht; clear ht
  obtain ⟨i0, z0, hi, hz, hzc⟩ := zero256
  by_cases h1 : 8 < s.size
  · go_enter Tryz.func108, Tryz.ntmps108
    go_wp2_with fail
    refine (Valid_any _ _).mono ?_; rintro e w' ⟨rfl, rfl⟩
    go_wp2_with fail
    refine (Valid_any _ _).mono ?_; rintro e w' ⟨rfl, rfl⟩
    go_wp2_with fail
    refine (Small_any _ _ _ HS.out).mono ?_; rintro e w' ⟨rfl, rfl⟩
    go_wp2_with fail
    refine (Small_any _ _ _ HT.out).mono ?_; rintro e w' ⟨rfl, rfl⟩
    go_wp2_with fail
    refine (Mul64_any _ _ HL1.out HL2.out _).mono ?_; rintro e w' ⟨rfl, rfl⟩
    go_wp2_with (refine wpList_alloc_arr _ rfl 179 rfl i0 z0 .i64 256 _ hi hz hzc ?_; intro w1 ha hb hsz)
    refine (product_any _ _ _ _ _ _ _ HS.out HT.out ha).mono ?_; rintro e w2 ⟨rfl, hb2⟩
    go_wp2_with fail
    refine (fitting_any _ _ (Nat.le_trans HBL.out (by omega))).mono ?_; rintro e w' ⟨rfl, rfl⟩
    go_wp2_with fail
    go_ret2
    exact ⟨rfl, hb.trans hb2⟩
  · by_cases h2 : 8 < t.size
    · go_enter Tryz.func108, Tryz.ntmps108
      go_wp2_with fail
      refine (Valid_any _ _).mono ?_; rintro e w' ⟨rfl, rfl⟩
      go_wp2_with fail
      refine (Valid_any _ _).mono ?_; rintro e w' ⟨rfl, rfl⟩
      go_wp2_with fail
      refine (Small_any _ _ _ HS.out).mono ?_; rintro e w' ⟨rfl, rfl⟩
      go_wp2_with fail
      refine (Small_any _ _ _ HT.out).mono ?_; rintro e w' ⟨rfl, rfl⟩
      go_wp2_with fail
      refine (Mul64_any _ _ HL1.out HL2.out _).mono ?_; rintro e w' ⟨rfl, rfl⟩
      go_wp2_with (refine wpList_alloc_arr _ rfl 179 rfl i0 z0 .i64 256 _ hi hz hzc ?_; intro w1 ha hb hsz)
      refine (product_any _ _ _ _ _ _ _ HS.out HT.out ha).mono ?_; rintro e w2 ⟨rfl, hb2⟩
      go_wp2_with fail
      refine (fitting_any _ _ (Nat.le_trans HBL.out (by omega))).mono ?_; rintro e w' ⟨rfl, rfl⟩
      go_wp2_with fail
      go_ret2
      exact ⟨rfl, hb.trans hb2⟩
    · have h3 : (hi64 (sm a) (sm b) == 0) = false := by
        rcases hc with h | h | h
        · omega
        · omega
        · exact h
      clear hc
      go_enter Tryz.func108, Tryz.ntmps108
      go_wp2_with fail
      refine (Valid_any _ _).mono ?_; rintro e w' ⟨rfl, rfl⟩
      go_wp2_with fail
      refine (Valid_any _ _).mono ?_; rintro e w' ⟨rfl, rfl⟩
      go_wp2_with fail
      refine (Small_any _ _ _ HS.out).mono ?_; rintro e w' ⟨rfl, rfl⟩
      go_wp2_with fail
      refine (Small_any _ _ _ HT.out).mono ?_; rintro e w' ⟨rfl, rfl⟩
      go_wp2_with fail
      refine (Mul64_any _ _ HL1.out HL2.out _).mono ?_; rintro e w' ⟨rfl, rfl⟩
      go_wp2_with (refine wpList_alloc_arr _ rfl 179 rfl i0 z0 .i64 256 _ hi hz hzc ?_; intro w1 ha hb hsz)
      refine (product_any _ _ _ _ _ _ _ HS.out HT.out ha).mono ?_; rintro e w2 ⟨rfl, hb2⟩
      go_wp2_with fail
      refine (fitting_any _ _ (Nat.le_trans HBL.out (by omega))).mono ?_; rintro e w' ⟨rfl, rfl⟩
      go_wp2_with fail
      go_ret2
      exact ⟨rfl, hb.trans hb2⟩

theorem Mul_any (s t : ByteArray) (a b : Nat) (w : World) (hs : IsN s a) (ht : IsN t b) :
    Calls Tryz.prog 108 #[.string s, .string t] w fun e w' => e = .returned (.tuple #[.string (fitS (a * b)), .int .i64 (fitE (a * b))]) ∧ Below w.heap.size w w' := by
  by_cases h1 : 8 < s.size
  · exact Mul_large s t a b w hs ht (.inl h1)
  · by_cases h2 : 8 < t.size
    · exact Mul_large s t a b w hs ht (.inr (.inl h2))
    · cases h3 : (hi64 (sm a) (sm b) == 0) with
      | false => exact Mul_large s t a b w hs ht (.inr (.inr h3))
      | true =>
        have hl : blen (a * b) ≤ 128 := by
          have ea : sm a = a := sm_short (by rw [← hs.size]; omega)
          have eb : sm b = b := sm_short (by rw [← ht.size]; omega)
          simp [hi64, ea, eb] at h3
          rw [blen_le_iff]; omega
        rw [fitS_ok hl, fitE_ok hl]
        exact Mul_small s t a b w hs ht (by omega) (by omega) h3
end Go.Proofs.YtdlbnioidfhhcaaGreat
