/- Contracts of the package natural: divided, the long division. -/
import Derived.Test.YtdlbnioidfhhcaaGreatNatE
import Derived.StillTailTactics
namespace Go.Proofs.YtdlbnioidfhhcaaGreat
open Go.RowKit Num
set_option maxRecDepth 20000

/-- the first k places of a row hold what g says -/
def Pref (k : Nat) (f g : Nat → Int) : Prop := ∀ m, m < k → f m = g m
theorem Pref.zero (f g : Nat → Int) : Pref 0 f g := fun m h => by omega
theorem Pref.step {k : Nat} {f g : Nat → Int} (h : Pref k f g) {v : Int} (hv : v = g k) : Pref (k + 1) (upd f k v) g := by
  intro m hm
  by_cases e : m = k
  · rw [e, upd_same, hv]
  · rw [upd_other _ _ e]; exact h m (by omega)
theorem upd_upd (f : Nat → Int) (i : Nat) (u v : Int) : upd (upd f i u) i v = upd f i v := by
  funext k; unfold upd; split <;> rfl

/-- the digits from J on are written into a row of L bytes -/
def FillH (L n J : Nat) (f : Nat → Int) : Prop := ∀ i, i < L → J ≤ L - 1 - i → f i = dg n (L - 1 - i)
theorem FillH.zero (L n : Nat) (f : Nat → Int) {J : Nat} (hJ : L ≤ J) : FillH L n J f := fun i h1 h2 => by omega
theorem FillH.step {L n j : Nat} {f : Nat → Int} (h : FillH L n (j + 1) f) {i : Nat} (hi : i = L - 1 - j) (hj : j < L) {v : Int} (hv : v = dg n j) : FillH L n j (upd f i v) := by
  intro m h1 h2
  by_cases e : m = i
  · rw [e, upd_same, hv, hi]; congr 1; omega
  · rw [upd_other _ _ e]; exact h m h1 (by omega)
theorem pow_pred (n : Nat) (z : 0 < n) : 256 * 256 ^ (n - 1) = 256 ^ n := by
  rw [Nat.mul_comm, ← Nat.pow_succ]; congr 1; omega
theorem low_pow (b : Nat) (t : ByteArray) (z : 0 < t.size) (ht : IsN t b) : 256 ^ (t.size - 1) ≤ b := by
  have := pow_le_of_blen b (t.size - 1) (by rw [← ht.size]; omega)
  exact this
theorem top_byte (b : Nat) (t : ByteArray) (z : 0 < t.size) (ht : IsN t b) : (t[0]'z).toNat = b / 256 ^ (t.size - 1) := by
  have h := nv_digit t (t.size - 1) (by omega)
  have e : t.size - 1 - (t.size - 1) = 0 := by omega
  simp only [e] at h
  rw [h, ht.nv, Nat.mod_eq_of_lt]
  rw [Nat.div_lt_iff_lt_mul (Nat.pow_pos (by omega)), pow_pred t.size z, ht.size]
  exact lt_blen b
theorem scale_lt (b sh : Nat) (t : ByteArray) (z : 0 < t.size) (ht : IsN t b) (s7 : sh ≤ 7) (hu : (t[0]'z).toNat * 2 ^ sh ≤ 255) : b * 2 ^ sh < 256 ^ t.size := by
  have hb := top_byte b t z ht
  rw [hb] at hu
  have hp : 0 < 256 ^ (t.size - 1) := Nat.pow_pos (by omega)
  have h1 := Nat.div_add_mod b (256 ^ (t.size - 1))
  have h2 := Nat.mod_lt b hp
  have h3 : (b / 256 ^ (t.size - 1) + 1) * 2 ^ sh ≤ 256 := by
    generalize b / 256 ^ (t.size - 1) = x at hu ⊢
    rcases (by omega : sh = 0 ∨ sh = 1 ∨ sh = 2 ∨ sh = 3 ∨ sh = 4 ∨ sh = 5 ∨ sh = 6 ∨ sh = 7) with h | h | h | h | h | h | h | h <;> subst h <;> simp at * <;> omega
  have h4 : b < (b / 256 ^ (t.size - 1) + 1) * 256 ^ (t.size - 1) := by
    rw [Nat.add_mul, Nat.mul_comm (b / 256 ^ (t.size - 1))]; omega
  have h5 : b * 2 ^ sh < (b / 256 ^ (t.size - 1) + 1) * 256 ^ (t.size - 1) * 2 ^ sh := (Nat.mul_lt_mul_right (Nat.two_pow_pos sh)).2 h4
  have h6 : (b / 256 ^ (t.size - 1) + 1) * 256 ^ (t.size - 1) * 2 ^ sh ≤ 256 ^ t.size := by
    rw [Nat.mul_right_comm, show (256 : Nat) ^ t.size = 256 * 256 ^ (t.size - 1) from by rw [Nat.mul_comm, ← Nat.pow_succ]; congr 1; omega]
    exact Nat.mul_le_mul_right _ h3
  omega
theorem dinv_start (s t : ByteArray) (a b sh : Nat) (hs : IsN s a) (ht : IsN t b) (z2 : t.size ≤ s.size) (s7 : sh ≤ 7) (z : 0 < t.size) (hu : (t[0]'z).toNat * 2 ^ sh ≤ 255) :
    DInv (a * 2 ^ sh) (b * 2 ^ sh) t.size s.size (s.size - t.size + 1) (dg (a * 2 ^ sh)) := by
  refine DInv.start (by omega) ?_ (Nat.le_of_lt (scale_lt b sh t z ht s7 hu))
  have hl := low_pow b t z ht
  have ha : a < 256 ^ s.size := by rw [hs.size]; exact lt_blen a
  rw [Nat.div_lt_iff_lt_mul (Nat.pow_pos (by omega))]
  have h1 : a * 2 ^ sh < 256 ^ s.size * 2 ^ sh := (Nat.mul_lt_mul_right (Nat.two_pow_pos sh)).2 ha
  have h2 : 256 ^ s.size * 2 ^ sh = 256 ^ (t.size - 1) * 2 ^ sh * 256 ^ (s.size - t.size + 1) := by
    rw [Nat.mul_right_comm, ← Nat.pow_add]; congr 2; omega
  have h3 : 256 ^ (t.size - 1) * 2 ^ sh * 256 ^ (s.size - t.size + 1) ≤ b * 2 ^ sh * 256 ^ (s.size - t.size + 1) := Nat.mul_le_mul_right _ (Nat.mul_le_mul_right _ hl)
  omega
theorem dtop (b sh : Nat) (t : ByteArray) (z : 0 < t.size) (ht : IsN t b) (s7 : sh ≤ 7) (h : 128 ≤ (t[0]'z).toNat * 2 ^ sh) (hu : (t[0]'z).toNat * 2 ^ sh ≤ 255) : 1 ≤ dg (b * 2 ^ sh) (t.size - 1) := by
  have hlt := scale_lt b sh t z ht s7 hu
  rw [top_byte b t z ht] at h
  have hp : 0 < 256 ^ (t.size - 1) := Nat.pow_pos (by omega)
  have h1 : b / 256 ^ (t.size - 1) * 2 ^ sh ≤ b * 2 ^ sh / 256 ^ (t.size - 1) := by
    rw [Nat.le_div_iff_mul_le hp, Nat.mul_right_comm]
    exact Nat.mul_le_mul_right _ (Nat.div_mul_le_self _ _)
  have h2 : b * 2 ^ sh / 256 ^ (t.size - 1) < 256 := by
    rw [Nat.div_lt_iff_lt_mul hp, pow_pred t.size z]; exact hlt
  unfold dg
  rw [Nat.mod_eq_of_lt h2]
  omega
theorem bscale (b sh : Nat) (t : ByteArray) (ht : IsN t b) (s7 : sh ≤ 7) (z : 0 < t.size) (hu : (t[0]'z).toNat * 2 ^ sh ≤ 255) (h0 : 0 < b) :
    ((b * 2 ^ sh : Nat) : Int) = ds 256 (dg (b * 2 ^ sh)) 0 t.size ∧ 0 < b * 2 ^ sh ∧ b * 2 ^ sh ≤ 256 ^ t.size := by
  have hlt := scale_lt b sh t z ht s7 hu
  refine ⟨?_, Nat.mul_pos h0 (Nat.two_pow_pos sh), Nat.le_of_lt hlt⟩
  rw [ds_dg, Nat.pow_zero, Nat.div_one, Nat.mod_eq_of_lt hlt]
theorem rest_digits (s t : ByteArray) (a b sh : Nat) (ht : IsN t b) (h0 : 0 < b) (s7 : sh ≤ 7) (z : 0 < t.size) (hu : (t[0]'z).toNat * 2 ^ sh ≤ 255) (z2 : t.size ≤ s.size) {R : Nat → Int}
    (h : DInv (a * 2 ^ sh) (b * 2 ^ sh) t.size s.size 0 R) : ∀ k, k ≤ t.size → R k = dg (a % b * 2 ^ sh) k := by
  have hlt := scale_lt b sh t z ht s7 hu
  have e : a * 2 ^ sh / 256 ^ 0 % (b * 2 ^ sh) = a % b * 2 ^ sh := by rw [Nat.pow_zero, Nat.div_one, Nat.mul_mod_mul_right]
  have hh := h.hi
  rw [e] at hh
  intro k hk
  by_cases hkn : k < t.size
  · exact ds_digit (fun m _ => h.dig m) hh k hkn
  · obtain rfl : k = t.size := by omega
    rw [h.zero t.size (by omega) z2]
    unfold dg
    have h1 : a % b * 2 ^ sh < b * 2 ^ sh := (Nat.mul_lt_mul_right (Nat.two_pow_pos sh)).2 (Nat.mod_lt a h0)
    rw [Nat.div_eq_of_lt (by omega)]; rfl
theorem quo_lt (s t : ByteArray) (a b : Nat) (hs : IsN s a) (ht : IsN t b) (h0 : 0 < b) (z : 0 < t.size) (z2 : t.size ≤ s.size) : a / b < 256 ^ (s.size - t.size + 1) := by
  have hl := low_pow b t z ht
  have ha : a < 256 ^ s.size := by rw [hs.size]; exact lt_blen a
  rw [Nat.div_lt_iff_lt_mul h0]
  have h2 : 256 ^ s.size = 256 ^ (s.size - t.size + 1) * 256 ^ (t.size - 1) := by rw [← Nat.pow_add]; congr 1; omega
  have h3 : 256 ^ (s.size - t.size + 1) * 256 ^ (t.size - 1) ≤ 256 ^ (s.size - t.size + 1) * b := Nat.mul_le_mul_left _ hl
  omega
set_option maxHeartbeats 3000000 in
theorem divided_long (s t : ByteArray) (a b : Nat) (w : World) (hs : IsN s a) (ht : IsN t b) (h : b ≤ a) (h0 : 0 < b) (h8 : 8 < s.size) :
    Calls Tryz.prog 84 #[.string s, .string t] w fun e w' => e = .returned (.tuple #[.string (enc (a / b)), .string (enc (a % b))]) ∧ Below w.heap.size w w' := by
  have z1 := hs.small
  have z2 : t.size ≤ s.size := by rw [hs.size, ht.size]; exact blen_mono h
  have z3 : 0 < t.size := by rw [ht.size]; have := blen_eq_zero b; omega
  have b0 := (canon_pos z3).1 ht.canon
  have b1 := (t[0]'z3).toNat_lt
  obtain ⟨sh, hsh, s7, sl, su⟩ := shift8 (t[0]'z3).toNat (by omega) (by omega)
  have HSH := Lib.hid hsh; clear hsh
  have HSL := Lib.hid sl; clear sl
  have HSU := Lib.hid su; clear su
  have HB0 := Lib.hid b0; clear b0
  have HS := Lib.hid hs; clear hs
  have HT := Lib.hid ht; clear ht
  have hc := (ncmp_ge a b).2 h
  obtain ⟨i0, hi, hz0, hz1, hz2⟩ := info_parts info_u8
  obtain ⟨i1, hj, hy0, hy1, hy2⟩ := info_parts info_int
  go_enter Tryz.func84, Tryz.ntmps84
  go_wp2_with fail
  refine (compare_any _ _ _ _ _ HS.out.eq HT.out.eq).mono ?_; rintro e w' ⟨rfl, rfl⟩
  go_wp2_with fail
  refine (bits_LeadingZeros8 _ _ (by omega) (by omega)).mono ?_; rintro e w' ⟨rfl, rfl⟩
  rw [Int.toNat_natCast, HSH.out]
  go_wp2_with (at_make; refine wpList_make_arr _ rfl _ _ _ rfl 3 i1 .i64 8 Tryz.underlying162 hj hy0 hy1 hy2 _ _ _ _ t.size rfl rfl ?_ ?_ ?_ ?_ ?_ <;> first | (intro w1 ha hb hsz) | omega | (unfold maxLen; omega))
  go_loopw [63] (fun i wr => ∃ (k : Nat) (f : Nat → Int), k ≤ t.size ∧ i = .int .i64 k ∧ Arr wr w.heap.size 3 .i64 t.size f ∧ Pref k f (dg (b * 2 ^ sh)) ∧ Below w.heap.size w wr)
    (fun i _ => t.size - (intOf i).toNat)
  case atStart => exact ⟨0, _, by omega, rfl, ha, Pref.zero _ _, hb⟩
  case round =>
    clear ha hb hsz
    obtain ⟨k, f, hk, rfl, ha, hf, hb⟩ := hrel
    by_cases hlt : k < t.size
    · have q1 := dg_nonneg (nv t) k
      have q2 := dg_le (nv t) k
      have hcell := ha.cell hlt
      have hfr := ha.free k
      obtain ⟨o1, o2, o3, o4, o5, o6, o7⟩ := scale_or sh s7 (dg (nv t) k) ⟨q1, q2⟩
      have O1 := Lib.hid o1; clear o1
      have O5 := Lib.hid o5; clear o5
      go_wp2_with (go_at_call 83; (with_reducible refine (digit_any _ _ _ (by omega) (by omega)).mono ?_); rintro e w' ⟨rfl, rfl⟩)
      · have hp : 0 < k := by assumption
        have ha2 := ha.set k (bits .and .i64 (dg (nv t) k * 2 ^ sh) 255)
        have hb2 := hb.setCell (p := ⟨w.heap.size, k, none⟩) (Nat.le_refl _) (.int .i64 (bits .and .i64 (dg (nv t) k * 2 ^ sh) 255))
        generalize wr.setCell _ _ = w2 at ha2 hb2 ⊢
        rw [i64_and255] at ha2
        have hcell2 := ha2.cell hlt
        rw [upd_same] at hcell2
        have hfr2 := ha2.free k
        clear ha hcell hfr hb
        have p1 := dg_nonneg (nv t) (k - 1)
        have p2 := dg_le (nv t) (k - 1)
        have g1 : IntKind.i64.wrap ((k : Int) - 1) = (k : Int) - 1 := IntWalk.i64_in _ (by omega)
        have g2 : IntKind.i64.wrap (8 - (sh : Int)) = 8 - (sh : Int) := IntWalk.i64_in _ (by omega)
        have g3 : (0 : Int) ≤ (k : Int) - 1 := by omega
        have g4 : (0 : Int) ≤ 8 - (sh : Int) := by omega
        have g5 : (8 - (sh : Int)).toNat = 8 - sh := by omega
        have g6 : ((k : Int) - 1).toNat = k - 1 := by omega
        have g7 : (8 - (sh : Int)) < 64 := by omega
        have hdig : ∀ wx : World, Calls Tryz.prog 83 #[.string t, .int .i64 ((k : Int) - 1)] wx fun e w'' => e = .returned (.int .i64 (dg (nv t) (k - 1))) ∧ w'' = wx := fun wx =>
          (digit_any t ((k : Int) - 1) wx (by omega) (by omega)).mono (fun _ _ h => ⟨by rw [h.1, g6], h.2.symm⟩)
        refine wp_region_still_tail 13 (by kernel_rfl) (by kernel_rfl) ?_
        simp only [List.take_succ_cons, List.take_zero, List.drop_succ_cons, List.drop_zero]
        iterate 7 still_step
        still_call (hdig _)
        iterate 5 still_step
        refine wpStill_nil ?_
        change wpList _ _ _ _ _ w2.drew
        refine wpList_store_int rfl rfl _ _ _ rfl _ _ _ _ _ rfl rfl hcell2 hfr2 i1 hj hy1 ?_
        refine wpList_nil ?_
        refine ‹∀ (a : Act) (w : World), Code.wp Tryz.prog _ _ a w → _› _ _ ?_
        clear g1 g2 g3 g4 g5 g6 g7 hdig
        have ha3 := ha2.drew.set k (bits BinOp.or IntKind.i64 (dg (nv t) k * 2 ^ sh % 256) (dg (nv t) (k - 1) / 2 ^ (8 - sh)))
        have hb3 := hb2.drew.setCell (p := ⟨w.heap.size, k, none⟩) (Nat.le_refl _) (.int .i64 (bits BinOp.or IntKind.i64 (dg (nv t) k * 2 ^ sh % 256) (dg (nv t) (k - 1) / 2 ^ (8 - sh))))
        generalize w2.drew.setCell _ _ = w3 at ha3 hb3 ⊢
        clear hcell2 hfr2 ha2 hb2
        rw [upd_upd] at ha3
        obtain ⟨r1, r2, r3, r4, r5, r6, r7⟩ := scale_or sh s7 (dg (nv t) (k - 1)) ⟨p1, p2⟩
        have e := dg_scale_succ b sh (k - 1) s7
        rw [show k - 1 + 1 = k from by omega] at e
        rw [or_i64 sh _ _ o2 O1.out (by omega) r4 r5 (by omega), HT.out.nv, ← e] at ha3
        clear e r1 r2 r3 r4 r5 r6 r7
        go_wp2_with fail
        go_roundw
        case rel => exact ⟨k + 1, _, by omega, by go_num, ha3, hf.step rfl, hb3⟩
        case measure => simp [intOf]; omega
      · obtain rfl : k = 0 := by omega
        rw [i64_and255, HT.out.nv, ← dg_scale_zero]
        go_roundw
        case rel => exact ⟨0 + 1, _, by omega, by go_num, ha.set 0 _, hf.step rfl, hb.setCell (Nat.le_refl _) _⟩
        case measure => simp [intOf]; omega
    · obtain rfl : k = t.size := by omega
      have hD := ha.congr (g := dg (b * 2 ^ sh)) hf
      clear ha hf f
      go_wp2_with (at_make; refine wpList_make_arr _ rfl _ _ _ rfl 3 i1 .i64 8 Tryz.underlying162 hj hy0 hy1 hy2 _ _ _ _ (s.size + 1) rfl rfl ?_ ?_ ?_ ?_ ?_ <;> first | (intro w2 ha hb2 hsz) | omega | (unfold maxLen; omega))
      have hD2 := hD.below hb2 hD.lt
      have hlt0 := hD.lt
      have hB2 : Below w.heap.size w w2 := hb.trans (hb2.mono (by omega))
      clear hb2 hD hb
      obtain ⟨wo, rfl⟩ : ∃ wo : World, wo = wr := ⟨_, rfl⟩
      go_loopw [97] (fun i wr => ∃ (k : Nat) (f : Nat → Int), k ≤ s.size + 1 ∧ i = .int .i64 k ∧ Arr wr w.heap.size 3 .i64 t.size (dg (b * 2 ^ sh)) ∧
          Arr wr wo.heap.size 3 .i64 (s.size + 1) f ∧ Pref k f (dg (a * 2 ^ sh)) ∧ Below w.heap.size w wr)
        (fun i _ => s.size + 1 - (intOf i).toNat)
      case atStart => exact ⟨0, _, by omega, rfl, hD2, ha, Pref.zero _ _, hB2⟩
      case round =>
        clear ha hsz hD2 hB2
        obtain ⟨k, f, hk, rfl, hD, ha, hf, hb⟩ := hrel
        by_cases hlt : k < s.size + 1
        · have q1 := dg_nonneg (nv s) k
          have q2 := dg_le (nv s) k
          have hcell := ha.cell hlt
          have hfr := ha.free k
          obtain ⟨o1, o2, o3, o4, o5, o6, o7⟩ := scale_or sh s7 (dg (nv s) k) ⟨q1, q2⟩
          have O1 := Lib.hid o1; clear o1
          have O5 := Lib.hid o5; clear o5
          go_wp2_with (go_at_call 83; (with_reducible refine (digit_any _ _ _ (by omega) (by omega)).mono ?_); rintro e w' ⟨rfl, rfl⟩)
          · have hp : 0 < k := by assumption
            have hD2 := hD.other (a := ⟨wo.heap.size, k, none⟩) (by simp; omega) (.int .i64 (bits .and .i64 (dg (nv s) k * 2 ^ sh) 255))
            have ha2 := ha.set k (bits .and .i64 (dg (nv s) k * 2 ^ sh) 255)
            have hb2 := hb.setCell (p := ⟨wo.heap.size, k, none⟩) (Nat.le_of_lt hlt0) (.int .i64 (bits .and .i64 (dg (nv s) k * 2 ^ sh) 255))
            generalize wr.setCell _ _ = w2 at ha2 hb2 hD2 ⊢
            rw [i64_and255] at ha2
            have hcell2 := ha2.cell hlt
            rw [upd_same] at hcell2
            have hfr2 := ha2.free k
            clear ha hcell hfr hb hD
            have p1 := dg_nonneg (nv s) (k - 1)
            have p2 := dg_le (nv s) (k - 1)
            have g1 : IntKind.i64.wrap ((k : Int) - 1) = (k : Int) - 1 := IntWalk.i64_in _ (by omega)
            have g2 : IntKind.i64.wrap (8 - (sh : Int)) = 8 - (sh : Int) := IntWalk.i64_in _ (by omega)
            have g3 : (0 : Int) ≤ (k : Int) - 1 := by omega
            have g4 : (0 : Int) ≤ 8 - (sh : Int) := by omega
            have g5 : (8 - (sh : Int)).toNat = 8 - sh := by omega
            have g6 : ((k : Int) - 1).toNat = k - 1 := by omega
            have g7 : (8 - (sh : Int)) < 64 := by omega
            have hdig : ∀ wx : World, Calls Tryz.prog 83 #[.string s, .int .i64 ((k : Int) - 1)] wx fun e w'' => e = .returned (.int .i64 (dg (nv s) (k - 1))) ∧ w'' = wx := fun wx =>
              (digit_any s ((k : Int) - 1) wx (by omega) (by omega)).mono (fun _ _ h => ⟨by rw [h.1, g6], h.2.symm⟩)
            refine wp_region_still_tail 13 (by kernel_rfl) (by kernel_rfl) ?_
            simp only [List.take_succ_cons, List.take_zero, List.drop_succ_cons, List.drop_zero]
            iterate 7 still_step
            still_call (hdig _)
            iterate 5 still_step
            refine wpStill_nil ?_
            change wpList _ _ _ _ _ w2.drew
            refine wpList_store_int rfl rfl _ _ _ rfl _ _ _ _ _ rfl rfl hcell2 hfr2 i1 hj hy1 ?_
            refine wpList_nil ?_
            refine ‹∀ (a : Act) (w : World), Code.wp Tryz.prog _ _ a w → _› _ _ ?_
            clear g1 g2 g3 g4 g5 g6 g7 hdig
            have ha3 := ha2.drew.set k (bits BinOp.or IntKind.i64 (dg (nv s) k * 2 ^ sh % 256) (dg (nv s) (k - 1) / 2 ^ (8 - sh)))
            have hb3 := hb2.drew.setCell (p := ⟨wo.heap.size, k, none⟩) (Nat.le_of_lt hlt0) (.int .i64 (bits BinOp.or IntKind.i64 (dg (nv s) k * 2 ^ sh % 256) (dg (nv s) (k - 1) / 2 ^ (8 - sh))))
            have hD3 := hD2.drew.other (a := ⟨wo.heap.size, k, none⟩) (by simp; omega) (.int .i64 (bits BinOp.or IntKind.i64 (dg (nv s) k * 2 ^ sh % 256) (dg (nv s) (k - 1) / 2 ^ (8 - sh))))
            generalize w2.drew.setCell _ _ = w3 at ha3 hb3 hD3 ⊢
            clear hcell2 hfr2 ha2 hb2 hD2
            rw [upd_upd] at ha3
            obtain ⟨r1, r2, r3, r4, r5, r6, r7⟩ := scale_or sh s7 (dg (nv s) (k - 1)) ⟨p1, p2⟩
            have e := dg_scale_succ a sh (k - 1) s7
            rw [show k - 1 + 1 = k from by omega] at e
            rw [or_i64 sh _ _ o2 O1.out (by omega) r4 r5 (by omega), HS.out.nv, ← e] at ha3
            clear e r1 r2 r3 r4 r5 r6 r7
            go_wp2_with fail
            go_roundw
            case rel => exact ⟨k + 1, _, by omega, by go_num, hD3, ha3, hf.step rfl, hb3⟩
            case measure => simp [intOf]; omega

          · obtain rfl : k = 0 := by omega
            rw [i64_and255, HS.out.nv, ← dg_scale_zero]
            go_roundw
            case rel => exact ⟨0 + 1, _, by omega, by go_num, hD.other (by simp; omega) _, ha.set 0 _, hf.step rfl, hb.setCell (Nat.le_of_lt hlt0) _⟩
            case measure => simp [intOf]
        · obtain rfl : k = s.size + 1 := by omega
          have hR := ha.congr (g := dg (a * 2 ^ sh)) hf
          clear ha hf f hj hy0 hy1 hy2
          go_wp2_with (at_make; refine wpList_make_arr _ rfl _ _ _ rfl 5 i0 .u8 1 Tryz.underlying115 hi hz0 hz1 hz2 _ _ _ _ (s.size - t.size + 1) rfl rfl ?_ ?_ ?_ ?_ ?_ <;> first | (intro w2 ha hb2 hsz) | omega | (unfold maxLen; omega))
          have hD2 := hD.below hb2 hD.lt
          have hR2 := hR.below hb2 hR.lt
          have hlt1 := hR.lt
          have hB2 : Below w.heap.size w w2 := hb.trans (hb2.mono (by omega))
          clear hb2 hD hb hR
          obtain ⟨wp, rfl⟩ : ∃ wp : World, wp = wr := ⟨_, rfl⟩
          have HI := Lib.hid (And.intro hi (And.intro hz0 (And.intro hz1 hz2)))
          clear hi hz0 hz1 hz2 HSH
          have hst := dinv_start s t a b sh HS.out HT.out z2 s7 z3 HSU.out
          go_loopw [17] (fun i wr => ∃ (J : Nat) (x : Int) (R g : Nat → Int), J ≤ s.size - t.size + 1 ∧ Hid (x = (J : Int) - 1) ∧ i = .int .i64 x ∧ Arr wr w.heap.size 3 .i64 t.size (dg (b * 2 ^ sh)) ∧
              Arr wr wo.heap.size 3 .i64 (s.size + 1) R ∧ DInv (a * 2 ^ sh) (b * 2 ^ sh) t.size s.size J R ∧
              Arr wr wp.heap.size 5 .u8 (s.size - t.size + 1) g ∧ FillH (s.size - t.size + 1) (a / b) J g ∧ Below w.heap.size w wr)
            (fun i _ => (intOf i + 1).toNat)
          case atStart => exact ⟨s.size - t.size + 1, _, _, _, by omega, show _ = _ from by omega, rfl, hD2, hR2, hst, ha, FillH.zero _ _ _ (by omega), hB2⟩
          case round =>
            clear ha hsz hD2 hR2 hB2 hst
            obtain ⟨J, x, R, g, hJ, hx, rfl, hD, hR, hinv, hq, hfl, hb⟩ := hrel
            cases J with
            | zero =>
              obtain rfl : x = -1 := by have := hx.out; omega
              clear hx hJ
              have hrest := rest_digits s t a b sh HT.out h0 s7 z3 HSU.out z2 hinv
              have hqlt := quo_lt s t a b HS.out HT.out h0 z3 z2
              have hrlt : a % b < 256 ^ t.size := by have := Nat.mod_lt a h0; rw [HT.out.size]; have := lt_blen b; omega
              have HREST := Lib.hid hrest; clear hrest
              have HQ := Lib.hid hqlt; clear hqlt
              have HRL := Lib.hid hrlt; clear hrlt
              have hdig := hinv.dig
              have HDIG := Lib.hid hdig; clear hdig
              clear hinv
              go_wp2_with (at_make; refine wpList_make_arr _ rfl _ _ _ rfl 5 i0 .u8 1 Tryz.underlying115 HI.out.1 HI.out.2.1 HI.out.2.2.1 HI.out.2.2.2 _ _ _ _ t.size rfl rfl ?_ ?_ ?_ ?_ ?_ <;> first | (intro w2 ha hb2 hsz) | omega | (unfold maxLen; omega))
              have hD2 := hD.below hb2 hD.lt
              have hR2 := hR.below hb2 hR.lt
              have hq2 := hq.below hb2 hq.lt
              have hlt2 := hq.lt
              have hB2 : Below w.heap.size w w2 := hb.trans (hb2.mono (by omega))
              clear hb2 hD hb hR hq
              obtain ⟨wv, rfl⟩ : ∃ wv : World, wv = wr := ⟨_, rfl⟩
              go_loopw [259] (fun i wr => ∃ (k : Nat) (f : Nat → Int), k ≤ t.size ∧ i = .int .i64 k ∧ Arr wr wo.heap.size 3 .i64 (s.size + 1) R ∧
                  Arr wr wp.heap.size 5 .u8 (s.size - t.size + 1) g ∧ Arr wr wv.heap.size 5 .u8 t.size f ∧ Filled t.size (a % b) k f ∧ Below w.heap.size w wr)
                (fun i _ => t.size - (intOf i).toNat)
              case atStart => exact ⟨0, _, by omega, rfl, hR2, hq2, ha, Filled.zero _ _, hB2⟩
              case round =>
                clear hR2 hq2 ha hB2 hsz hD2
                obtain ⟨k, f, hk, rfl, hR, hq, ha, hf, hb⟩ := hrel
                by_cases hlt : k < t.size
                · have y0 := HDIG.out k
                  have y1 := HDIG.out (k + 1)
                  have y2 := hR.cell (show k < s.size + 1 by omega)
                  have y3 := hR.cell (show k + 1 < s.size + 1 by omega)
                  have y4 := ha.cell (show t.size - 1 - k < t.size by omega)
                  have y5 := ha.free (t.size - 1 - k)
                  have o2 : bits .or .i64 (R k) (R (k + 1) * 256) = R k + R (k + 1) * 256 := or_i64_right 8 _ _ (by omega) (by omega) (by omega) y0.1 y0.2 (by omega)
                  go_wp2_with fail
                  have hrd := rest_digit (a % b) sh k s7
                  rw [← HREST.out k (by omega), ← HREST.out (k + 1) (by omega)] at hrd
                  go_roundw
                  case rel => exact ⟨k + 1, _, by omega, by go_num, hR.other (by simp; omega) _, hq.other (by simp; omega) _, ha.set _ _, hf.step hlt rfl hrd, hb.setCell (by simp; omega) _⟩
                  case measure => simp [intOf]; omega
                · obtain rfl : k = t.size := by omega
                  go_wp2_with fail
                  refine (trimmed_arr wr _ (s.size - t.size + 1) (a / b) g hq (by omega) (fun i hi => hfl i hi (by omega)) HQ.out).mono ?_
                  rintro e w' ⟨rfl, rfl⟩
                  go_wp2_with fail
                  refine (trimmed_arr wr _ t.size (a % b) f ha (by omega) hf.done HRL.out).mono ?_
                  rintro e w' ⟨rfl, rfl⟩
                  go_wp2_with fail
                  go_ret2
                  exact ⟨rfl, hb⟩
            | succ j =>
              obtain rfl : x = (j : Int) := by have := hx.out; omega
              clear hx
              have hj1 : j + t.size ≤ s.size := by omega
              have c1 := hR.cell (show j + t.size < s.size + 1 by omega)
              have c2 := hR.cell (show j + t.size - 1 < s.size + 1 by omega)
              have c3 := hD.cell (show t.size - 1 < t.size by omega)
              have d1 := hinv.dig (j + t.size)
              have d2 := hinv.dig (j + t.size - 1)
              have d3 := dtop b sh t z3 HT.out s7 HSL.out HSU.out
              have d4 := dg_le (b * 2 ^ sh) (t.size - 1)
              have e1 : IntKind.i64.wrap ((j : Int) + (t.size : Int)) = (j : Int) + t.size := IntWalk.i64_in _ (by omega)
              have e2 : IntKind.i64.wrap ((j : Int) + (t.size : Int) - 1) = (j : Int) + t.size - 1 := IntWalk.i64_in _ (by omega)
              have e3 : IntKind.i64.wrap ((t.size : Int) - 1) = (t.size : Int) - 1 := IntWalk.i64_in _ (by omega)
              have n1 : ((j : Int) + (t.size : Int)).toNat = j + t.size := by omega
              have n2 : ((j : Int) + (t.size : Int) - 1).toNat = j + t.size - 1 := by omega
              have n3 : ((t.size : Int) - 1).toNat = t.size - 1 := by omega
              have b1 : (0 : Int) ≤ (j : Int) + (t.size : Int) := by omega
              have b2 : (j : Int) + (t.size : Int) < (s.size : Int) + 1 := by omega
              have b3 : (0 : Int) ≤ (j : Int) + (t.size : Int) - 1 := by omega
              have b4 : (j : Int) + (t.size : Int) - 1 < (s.size : Int) + 1 := by omega
              have b5 : (0 : Int) ≤ (t.size : Int) - 1 := by omega
              have b6 : (t.size : Int) - 1 < (t.size : Int) := by omega
              have o1 : IntKind.i64.wrap (R (j + t.size) * 256) = R (j + t.size) * 256 := IntWalk.i64_in _ (by omega)
              have o2 : bits .or .i64 (R (j + t.size) * 256) (R (j + t.size - 1)) = R (j + t.size) * 256 + R (j + t.size - 1) := or_i64 8 _ _ (by omega) (by omega) (by omega) d2.1 d2.2 (by omega)
              have nz : (dg (b * 2 ^ sh) (t.size - 1) == 0) = false := by rw [beq_eq_false_iff_ne]; omega
              have nz2 : ¬ (dg (b * 2 ^ sh) (t.size - 1) = 0) := by omega
              go_wp2_with fail
              go_quiet (fail)
              clear e1 e2 e3 n1 n2 n3 b1 b2 b3 b4 b5 b6 o1 o2 nz nz2
              have hD3 : Arr (wr.drewN nq) w.heap.size 3 .i64 t.size (dg (b * 2 ^ sh)) := hD
              have hR3 : Arr (wr.drewN nq) wo.heap.size 3 .i64 (s.size + 1) R := hR
              have hq3 : Arr (wr.drewN nq) wp.heap.size 5 .u8 (s.size - t.size + 1) g := hq
              have hb3 := below_drewN hb nq
              generalize wr.drewN nq = w3 at hD3 hR3 hq3 hb3 ⊢
              clear hD hR hq hb c1 c2 c3
              have hbs := bscale b sh t HT.out s7 z3 HSU.out h0
              have hgu := hinv.guess1 hbs.1 (fun m => ⟨dg_nonneg _ m, dg_le _ m⟩) z3 d3
              have HBS := Lib.hid hbs; clear hbs
              go_wp2_with fail
              have hG : 0 ≤ min ((R (j + t.size) * 256 + R (j + t.size - 1)) / dg (b * 2 ^ sh) (t.size - 1)) 255 ∧ min ((R (j + t.size) * 256 + R (j + t.size - 1)) / dg (b * 2 ^ sh) (t.size - 1)) 255 ≤ 255 := ⟨hgu.2, by omega⟩
              have hgu1 := hgu.1
              clear hgu
              generalize min ((R (j + t.size) * 256 + R (j + t.size - 1)) / dg (b * 2 ^ sh) (t.size - 1)) 255 = G at hG hgu1 ⊢
              have HGU := Lib.hid hgu1; clear hgu1
              go_loopw [19, 20, 162] (fun c bo i wr => ∃ (k : Nat) (carry borrow : Int) (R' : Nat → Int), k ≤ t.size ∧ i = .int .i64 k ∧ c = .int .i64 carry ∧ bo = .int .i64 borrow ∧
                  Sub1 R R' (dg (b * 2 ^ sh)) j k G carry borrow ∧ Arr wr w.heap.size 3 .i64 t.size (dg (b * 2 ^ sh)) ∧ Arr wr wo.heap.size 3 .i64 (s.size + 1) R' ∧
                  Arr wr wp.heap.size 5 .u8 (s.size - t.size + 1) g ∧ Below w.heap.size w wr)
                (fun _ _ i _ => t.size - (intOf i).toNat)
              case atStart => exact ⟨0, 0, 0, R, by omega, rfl, rfl, rfl, Sub1.zero hinv.dig j G, hD3, hR3, hq3, hb3⟩
              case round =>
                clear hD3 hR3 hq3 hb3
                obtain ⟨k, carry, borrow, R', hk, rfl, rfl, rfl, hsub, hD, hR, hq, hb⟩ := hrel
                by_cases hlt : k < t.size
                · have m0 := dg_nonneg (b * 2 ^ sh) k
                  have m1 := dg_le (b * 2 ^ sh) k
                  have m2 : 0 ≤ G * dg (b * 2 ^ sh) k := Int.mul_nonneg hG.1 m0
                  have m3 : G * dg (b * 2 ^ sh) k ≤ 65025 := by have := Int.mul_le_mul hG.2 m1 m0 (by omega : (0 : Int) ≤ 255); omega
                  have c0 := hsub.c0
                  have c1 := hsub.c1
                  have bo0 := hsub.b0
                  have bo1 := hsub.b1
                  have rd := hsub.dig (k + j)
                  have y1 := hD.cell hlt
                  have y2 := hR.cell (show k + j < s.size + 1 by omega)
                  have y3 := hR.free (k + j)
                  have ha : bits .and .i64 (carry + G * dg (b * 2 ^ sh) k) 255 = (carry + G * dg (b * 2 ^ sh) k) % 256 := i64_and255 _
                  go_wp2_with fail
                  · have hx : R' (k + j) - (carry + G * dg (b * 2 ^ sh) k) % 256 - borrow < 0 := by assumption
                    go_roundw
                    case rel => exact ⟨k + 1, _, _, _, by omega, by go_num, rfl, rfl, hsub.step ⟨m0, m1⟩ hG rfl (.inl ⟨hx, rfl, rfl⟩), hD.other (by simp; omega) _, hR.set (k + j) _, hq.other (by simp; omega) _, hb.setCell (Nat.le_of_lt hlt0) _⟩
                    case measure => simp [intOf]; omega
                  · have hx : 0 ≤ R' (k + j) - (carry + G * dg (b * 2 ^ sh) k) % 256 - borrow := by assumption
                    go_roundw
                    case rel => exact ⟨k + 1, _, _, _, by omega, by go_num, rfl, rfl, hsub.step ⟨m0, m1⟩ hG rfl (.inr ⟨hx, rfl, rfl⟩), hD.other (by simp; omega) _, hR.set (k + j) _, hq.other (by simp; omega) _, hb.setCell (Nat.le_of_lt hlt0) _⟩
                    case measure => simp [intOf]; omega
                · obtain rfl : k = t.size := by omega
                  have hmid := DMid.start hinv hsub HBS.out.1 ⟨HGU.out, hG.1, hG.2⟩
                  have c0 := hsub.c0
                  have c1 := hsub.c1
                  have bo0 := hsub.b0
                  have bo1 := hsub.b1
                  have rd := hsub.dig (j + t.size)
                  have y1 := hR.cell (show j + t.size < s.size + 1 by omega)
                  clear hsub HGU hinv
                  go_wp2_with fail
                  go_loopw [18, 23] (fun gu tp wr => ∃ (g2 top : Int) (R2 : Nat → Int), gu = .int .i64 g2 ∧ tp = .int .i64 top ∧ DMid (a * 2 ^ sh) (b * 2 ^ sh) t.size s.size j R2 (dg (b * 2 ^ sh)) g2 top ∧
                      Arr wr w.heap.size 3 .i64 t.size (dg (b * 2 ^ sh)) ∧ Arr wr wo.heap.size 3 .i64 (s.size + 1) R2 ∧ Arr wr wp.heap.size 5 .u8 (s.size - t.size + 1) g ∧ Below w.heap.size w wr)
                    (fun gu _ _ => (intOf gu).toNat)
                  case atStart => exact ⟨_, _, _, rfl, rfl, hmid, hD, hR, hq, hb⟩
                  case round =>
                    clear hD hR hq hb hmid y1 rd c0 c1 bo0 bo1 hG
                    obtain ⟨g2, top, R2, rfl, rfl, hmid, hD, hR, hq, hb⟩ := hrel
                    have t0 := hmid.t0
                    have t1 := hmid.t1
                    have g0 := hmid.g0
                    have g1 := hmid.g1
                    by_cases htop : top < 0
                    · go_wp2_with fail
                      go_loopw [24, 212] (fun c i wr => ∃ (k : Nat) (ca : Int) (R3 : Nat → Int), k ≤ t.size ∧ i = .int .i64 k ∧ c = .int .i64 ca ∧ Add1 R2 R3 (dg (b * 2 ^ sh)) j k ca ∧
                          Arr wr w.heap.size 3 .i64 t.size (dg (b * 2 ^ sh)) ∧ Arr wr wo.heap.size 3 .i64 (s.size + 1) R3 ∧ Arr wr wp.heap.size 5 .u8 (s.size - t.size + 1) g ∧ Below w.heap.size w wr)
                        (fun _ i _ => t.size - (intOf i).toNat)
                      case atStart => exact ⟨0, 0, R2, by omega, rfl, rfl, Add1.zero hmid.dig j, hD, hR, hq, hb⟩
                      case round =>
                        clear hD hR hq hb
                        obtain ⟨k, ca, R3, hk, rfl, rfl, hadd, hD, hR, hq, hb⟩ := hrel
                        by_cases hlt : k < t.size
                        · have m0 := dg_nonneg (b * 2 ^ sh) k
                          have m1 := dg_le (b * 2 ^ sh) k
                          have c0 := hadd.c0
                          have c1 := hadd.c1
                          have rd := hadd.dig (k + j)
                          have y1 := hD.cell hlt
                          have y2 := hR.cell (show k + j < s.size + 1 by omega)
                          have y3 := hR.free (k + j)
                          have e1 : IntKind.i64.wrap ((k : Int) + (j : Int)) = (k : Int) + j := IntWalk.i64_in _ (by omega)
                          have e2 : ((k : Int) + (j : Int)).toNat = k + j := by omega
                          have e3 : (0 : Int) ≤ (k : Int) + (j : Int) := by omega
                          have e4 : (k : Int) + (j : Int) < (s.size : Int) + 1 := by omega
                          have e5 : IntKind.i64.wrap (R3 (k + j) + dg (b * 2 ^ sh) k) = R3 (k + j) + dg (b * 2 ^ sh) k := IntWalk.i64_in _ (by omega)
                          have e6 : IntKind.i64.wrap (ca + (R3 (k + j) + dg (b * 2 ^ sh) k)) = ca + (R3 (k + j) + dg (b * 2 ^ sh) k) := IntWalk.i64_in _ (by omega)
                          have e7 : (k : Int) < (t.size : Int) := by omega
                          go_wp2_with fail
                          go_quiet (fail)
                          clear e1 e2 e3 e4 e5 e6 e7
                          have hD3 : Arr (wr.drewN nq) w.heap.size 3 .i64 t.size (dg (b * 2 ^ sh)) := hD
                          have hR3 : Arr (wr.drewN nq) wo.heap.size 3 .i64 (s.size + 1) R3 := hR
                          have hq3 : Arr (wr.drewN nq) wp.heap.size 5 .u8 (s.size - t.size + 1) g := hq
                          have hb3 := below_drewN hb nq
                          generalize wr.drewN nq = w4 at hD3 hR3 hq3 hb3 ⊢
                          clear hD hR hq hb y1 y2 y3
                          have y2 := hR3.cell (show k + j < s.size + 1 by omega)
                          have y3 := hR3.free (k + j)
                          have ha : bits .and .i64 (ca + (R3 (k + j) + dg (b * 2 ^ sh) k)) 255 = (ca + (R3 (k + j) + dg (b * 2 ^ sh) k)) % 256 := i64_and255 _
                          go_wp2_with fail
                          go_roundw
                          case rel => exact ⟨k + 1, _, _, by omega, by go_num, rfl, hadd.step ⟨m0, m1⟩, hD3.other (by simp; omega) _, hR3.set (k + j) _, hq3.other (by simp; omega) _, hb3.setCell (Nat.le_of_lt hlt0) _⟩
                          case measure => simp [intOf]; omega
                        · obtain rfl : k = t.size := by omega
                          have hmid2 := hmid.back hadd HBS.out.1 HBS.out.2.1 htop
                          have c0 := hadd.c0
                          have c1 := hadd.c1
                          have z0 := hmid2.g0
                          go_wp2_with fail
                          go_roundw
                          case rel => exact ⟨_, _, _, rfl, rfl, hmid2, hD, hR, hq, hb⟩
                          case measure => simp [intOf]; omega
                    · have hdone := hmid.done HBS.out.2.1 HBS.out.2.2 (by omega)
                      have HDONE := Lib.hid hdone; clear hdone
                      have y2 := hR.cell (show j + t.size < s.size + 1 by omega)
                      have y3 := hR.free (j + t.size)
                      have y4 := hq.cell (show s.size - t.size - j < s.size - t.size + 1 by omega)
                      have y5 := hq.free (s.size - t.size - j)
                      go_wp2_with fail
                      have hdg : dg (a * 2 ^ sh / (b * 2 ^ sh)) j = dg (a / b) j := by rw [Nat.mul_div_mul_right _ _ (Nat.two_pow_pos sh)]
                      have hgv := HDONE.out.1.trans hdg
                      go_roundw
                      case rel => exact ⟨j, _, _, _, by omega, show _ = _ from rfl, rfl, (hD.other (by simp; omega) _).other (by simp; omega) _, (hR.set (j + t.size) top).other (by simp; omega) _, HDONE.out.2.1, (hq.other (by simp; omega) _).set _ _, hfl.step (by omega) (by omega) hgv, (hb.setCell (Nat.le_of_lt hlt0) _).setCell (by simp; omega) _⟩
                      case measure => simp [intOf]
end Go.Proofs.YtdlbnioidfhhcaaGreat
