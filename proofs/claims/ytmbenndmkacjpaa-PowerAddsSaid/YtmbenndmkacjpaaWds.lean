/- Contracts of the package modular: trim, limbs, product, shifted, number. -/
import Derived.Test.YtmbenndmkacjpaaMod
import Derived.Test.YtmbenndmkacjpaaBytes
import Derived.Test.YtmbenndmkacjpaaWd
import Derived.Deep.AppendLies
import Derived.Lib.BufferRead
import Derived.Deep.RegionHeldLaw
import Derived.RegionTactic
namespace Go.Proofs.Ytmbenndmkacjpaa
open Go.RowKit Num
open Go.Lib (byteCells byteCells_length byteCells_append)
set_option maxRecDepth 20000

/-- words lie in block b from its beginning -/
def Wds (w : World) (b n : Nat) (f : Nat → Int) : Prop := ∀ i, i < n → w.cell? ⟨b, i, none⟩ = some (.int .u32 (f i))
theorem Wds.below {w w' : World} {b n B : Nat} {f : Nat → Int} (h : Wds w b n f) (hb : Below B w w') (hB : b < B) : Wds w' b n f := by
  intro i hi
  rw [← h i hi]
  unfold World.cell?
  rw [show w'.heap[(⟨b, i, none⟩ : Addr).block]? = _ from hb.block b hB]
theorem Wds.take {w : World} {b n m : Nat} {f : Nat → Int} (h : Wds w b n f) (hm : m ≤ n) : Wds w b m f := fun i hi => h i (by omega)
theorem Arr.wds {w : World} {b n : Nat} {t : TypeId} {f : Nat → Int} (h : Arr w b t .u32 n f) : Wds w b n f := fun _ hi => h.cell hi

theorem trim_any (b n c : Nat) (f : Nat → Int) (w : World) (hn : n ≤ c) (hc : c ≤ 1000) (h : Wds w b n f) :
    Calls Try.prog 69 #[.slice (some ⟨b, 0, none⟩) n c] w fun e w' => e = .returned (.slice (some ⟨b, 0, none⟩) (tl f n) c) ∧ w = w' := by
  go_enter Try.func69, Try.ntmps69
  go_wp2_with fail
  go_loop [0] (fun v => ∃ k : Nat, k ≤ n ∧ tl f k = tl f n ∧ v = .slice (some ⟨b, 0, none⟩) k c) (fun v => slen v)
  case atStart => exact ⟨n, by omega, rfl, rfl⟩
  case round =>
    obtain ⟨k, hk, ht, rfl⟩ := hrel
    rcases k with _ | k
    · have HT := Lib.hid ht; clear ht
      go_wp2_with fail
      go_ret
      exact ⟨by rw [← HT.out]; rfl, rfl⟩
    · have hc0 := h k (by omega)
      by_cases e : f k = 0
      · have e1 : (f k == 0) = true := by rw [beq_iff_eq]; exact e
        have ht2 : tl f k = tl f n := by rw [← ht, tl, if_pos e]
        rw [e] at hc0
        clear ht e e1
        go_wp2_with fail
        go_round
        case rel => exact ⟨k, by omega, ht2, rfl⟩
        case measure => simp [slen]
      · have e1 : (f k == 0) = false := by rw [beq_eq_false_iff_ne]; exact e
        have ht2 : tl f n = k + 1 := by rw [← ht, tl, if_neg e]
        have HT := Lib.hid ht2
        clear ht e ht2
        go_wp2_with fail
        go_ret
        exact ⟨by rw [HT.out]; rfl, rfl⟩

theorem info_w32 : (Try.prog.info? 102).map (fun i => (i.zero, i.size, i.bytes)) = some (some (.int .u32 0), 1, 4) := by kernel_rfl
set_option maxHeartbeats 1000000 in
theorem mprod_any (b1 n1 c1 b2 n2 c2 : Nat) (A B : Nat) (w : World) (h1 : n1 ≤ c1) (h2 : n2 ≤ c2) (g1 : c1 ≤ 1000) (g2 : c2 ≤ 1000) (ha : Wds w b1 n1 (wd A)) (hb : Wds w b2 n2 (wd B)) (l1 : b1 < w.heap.size) (l2 : b2 < w.heap.size)
    (hA : A < 4294967296 ^ n1) (hB : B < 4294967296 ^ n2) :
    Calls Try.prog 58 #[.slice (some ⟨b1, 0, none⟩) n1 c1, .slice (some ⟨b2, 0, none⟩) n2 c2] w fun e w' => e = .returned (.slice (some ⟨w.heap.size, 0, none⟩) (n1 + n2) (n1 + n2)) ∧ Arr w' w.heap.size 102 .u32 (n1 + n2) (wd (A * B)) ∧ Below w.heap.size w w' := by
  have hdB : (B : Int) = ds 4294967296 (wd B) 0 n2 := by rw [ds_wd, Nat.pow_zero, Nat.div_one, Nat.mod_eq_of_lt hB]
  have hlt : A * B < 4294967296 ^ (n1 + n2) := by rw [Nat.pow_add]; exact Nat.mul_lt_mul'' hA hB
  have HA := Lib.hid hA; clear hA
  have HB := Lib.hid hB; clear hB
  have HDB := Lib.hid hdB; clear hdB
  have HLT := Lib.hid hlt; clear hlt
  obtain ⟨i0, hi, hz0, hz1, hz2⟩ := info_parts info_w32
  go_enter Try.func58, Try.ntmps58
  go_wp2_with (at_make; refine wpList_make_arr _ rfl _ _ _ rfl 102 i0 .u32 4 Try.underlying88 hi hz0 hz1 hz2 _ _ _ _ (n1 + n2) rfl rfl ?_ ?_ ?_ ?_ ?_ <;> first | (intro w1 hr hbl hsz) | omega | (unfold maxLen; omega))
  clear hi hz0 hz1 hz2
  go_loopw [20] (fun i wr => ∃ (k : Nat) (R : Nat → Int), k ≤ n1 ∧ i = .int .i64 k ∧ Arr wr w.heap.size 102 .u32 (n1 + n2) R ∧ Prd A B n2 k R ∧ Below w.heap.size w wr)
    (fun i _ => n1 - (intOf i).toNat)
  case atStart => exact ⟨0, _, by omega, rfl, hr, Prd.zero' A B n2, hbl⟩
  case round =>
    clear hr hbl hsz
    obtain ⟨k, R, hk, rfl, hr, hp, hbl⟩ := hrel
    by_cases hlt : k < n1
    · have q1 := wd_nonneg A k
      have q2 := wd_le A k
      have hc1 := ha.below hbl l1 k hlt
      go_wp2_with fail
      obtain ⟨wo, rfl⟩ : ∃ wo : World, wo = wr := ⟨_, rfl⟩
      go_loopw [8, 27] (fun c i wr => ∃ (j : Nat) (ca : Int) (R' : Nat → Int), j ≤ n2 ∧ i = .int .i64 j ∧ c = .int .u64 ca ∧ Arr wr w.heap.size 102 .u32 (n1 + n2) R' ∧ Mac R R' (wd B) k j (wd A k) ca ∧ Below w.heap.size w wr)
        (fun _ i _ => n2 - (intOf i).toNat)
      case atStart => exact ⟨0, 0, R, by omega, rfl, rfl, hr, Mac.zero hp.dig k _, hbl⟩
      case round =>
        clear hr hbl hc1
        obtain ⟨j, ca, R', hj, rfl, rfl, hr, hm, hbl⟩ := hrel
        by_cases hlt2 : j < n2
        · have p1 := wd_nonneg B j
          have p2 := wd_le B j
          have p3 := mac_le ⟨q1, q2⟩ ⟨p1, p2⟩
          have p4 := p3.1
          have p5 := p3.2
          clear p3
          have c0 := hm.c0
          have c3 := hm.c1
          have d := hm.dig (k + j)
          have hc2 := hb.below hbl l2 j hlt2
          have hc3 := hr.cell (show k + j < n1 + n2 by omega)
          have hfr := hr.free (k + j)
          go_wp2_with fail
          go_roundw
          case rel => exact ⟨j + 1, _, _, by omega, by go_num, rfl, hr.set (k + j) _, hm.step ⟨p1, p2⟩ ⟨q1, q2⟩ rfl, hbl.setCell (Nat.le_refl _) _⟩
          case measure => simp [intOf]; omega
        · obtain rfl : n2 = j := by omega
          have c0 := hm.c0
          have c3 := hm.c1
          have hc3 := hr.cell (show k + n2 < n1 + n2 by omega)
          have hfr := hr.free (k + n2)
          go_wp2_with fail
          go_roundw
          case rel => exact ⟨k + 1, _, by omega, by go_num, hr.set (k + n2) _, hp.step hm HDB.out, hbl.setCell (Nat.le_refl _) _⟩
          case measure => simp [intOf]; omega
    · obtain rfl : k = n1 := by omega
      have hs := hp.done HA.out
      have hw := ds_word (fun k _ => hp.dig k) hs
      have HR := Lib.hid (hr.congr hw)
      clear hs hw hr hp
      go_wp2_with fail
      go_ret
      exact ⟨rfl, HR.out, hbl⟩

theorem or_u32_right (i : Nat) (x y : Int) (hx₀ : 0 ≤ x) (hx : x % 2 ^ i = 0) (hx₁ : x < 2 ^ 32) (hy₀ : 0 ≤ y) (hy : y < 2 ^ i) (hi : i ≤ 32) : bits .or .u32 y x = x + y := by
  have hc : bits .or .u32 y x = bits .or .u32 x y := by simp only [bits, BitVec.or_comm]
  rw [hc, or_u32 i x y hx₀ hx hx₁ hy₀ hy hi]
set_option maxHeartbeats 1000000 in
theorem shifted_any (b n c s A : Nat) (w : World) (hn : n ≤ c) (hc : c ≤ 1000) (hs : s ≤ 31) (ha : Wds w b n (wd A)) (lb : b < w.heap.size) (hA : A < 4294967296 ^ n) :
    Calls Try.prog 71 #[.slice (some ⟨b, 0, none⟩) n c, .int .i64 s] w fun e w' => e = .returned (.slice (some ⟨w.heap.size, 0, none⟩) (n + 1) (n + 1)) ∧ Arr w' w.heap.size 102 .u32 (n + 1) (wd (A * 2 ^ s)) ∧ Below w.heap.size w w' := by
  have HA := Lib.hid hA; clear hA
  obtain ⟨i0, hi, hz0, hz1, hz2⟩ := info_parts info_w32
  go_enter Try.func71, Try.ntmps71
  go_wp2_with (at_make; refine wpList_make_arr _ rfl _ _ _ rfl 102 i0 .u32 4 Try.underlying88 hi hz0 hz1 hz2 _ _ _ _ (n + 1) rfl rfl ?_ ?_ ?_ ?_ ?_ <;> first | (intro w1 hr hbl hsz) | omega | (unfold maxLen; omega))
  clear hi hz0 hz1 hz2
  go_loopw [15] (fun i wr => ∃ (k : Nat) (R : Nat → Int), k ≤ n ∧ i = .int .i64 k ∧ Arr wr w.heap.size 102 .u32 (n + 1) R ∧ Shf A s k R ∧ Below w.heap.size w wr)
    (fun i _ => n - (intOf i).toNat)
  case atStart => exact ⟨0, _, by omega, rfl, hr, Shf.zero' A s, hbl⟩
  case round =>
    clear hr hbl hsz
    obtain ⟨k, R, hk, rfl, hr, hp, hbl⟩ := hrel
    by_cases hlt : k < n
    · have q1 := wd_nonneg A k
      have q2 := wd_le A k
      have hc1 := ha.below hbl lb k hlt
      have hc2 := hr.cell (show k < n + 1 by omega)
      have hf2 := hr.free k
      have hst := hp.step hs
      obtain ⟨p1, p2, p3, p4, p5, p6⟩ := shf_parts s hs (wd A k) ⟨q1, q2⟩
      have hd := hp.dig k
      have ht := hp.top
      have hor : bits .or .u32 (R k) (wd A k * 2 ^ s % 4294967296) = wd A k * 2 ^ s % 4294967296 + R k := or_u32_right s _ _ (by omega) p1 (by omega) hd.1 ht (by omega)
      have HST := Lib.hid hst; clear hst
      have HP6 := Lib.hid p6; clear p6
      clear p1 p3 ht
      have hc3 := hr.cell (show k + 1 < n + 1 by omega)
      have hf3 := hr.free (k + 1)
      go_wp2_with fail
      go_roundw
      case rel => exact ⟨k + 1, _, by omega, by go_num, (hr.set k _).set (k + 1) _, HST.out.1, (hbl.setCell (Nat.le_refl _) _).setCell (Nat.le_refl _) _⟩
      case measure => simp [intOf]; omega
    · obtain rfl : k = n := by omega
      have HR := Lib.hid (hr.congr (hp.done HA.out))
      clear hr hp
      go_wp2_with fail
      go_ret
      exact ⟨rfl, HR.out, hbl⟩

theorem bytesL_four (k n : Nat) (x : Int) (hx : x = ((n % 4294967296 : Nat) : Int)) : bytesL (k + 4) n = bytesL k (n / 4294967296) ++ [byw (x / 16777216), byw (x / 65536), byw (x / 256), byw x] := by
  rw [bytesL_succ, bytesL_succ, bytesL_succ, bytesL_succ]
  simp only [List.append_assoc, List.cons_append, List.nil_append]
  rw [show n / 256 / 256 / 256 / 256 = n / 4294967296 from by omega]
  congr 1
  have e : ∀ (a : Nat) (z : Int), (a : Int) % 256 = z % 256 → UInt8.ofNat a = byw z := by
    intro a z h
    apply UInt8.toNat_inj.1
    have := byw_cell z
    rw [UInt8.toNat_ofNat']
    omega
  rw [e (n / 256 / 256 / 256) (x / 16777216) (by omega), e (n / 256 / 256) (x / 65536) (by omega), e (n / 256) (x / 256) (by omega), e n x (by omega)]
/-- bytes that a call owns, beyond the blocks below B -/
theorem owns_slice {w : World} {B n : Nat} {v : Value} {l : List UInt8} (h : w.ownsRow B 5 1 v n (byteCells l)) :
    ∃ av cv, v = .slice av n cv ∧ (av = none → n = 0 ∧ cv = 0) ∧ n ≤ cv := by
  rcases h.2 with ⟨h1, h2⟩ | ⟨g, cap, cur, h0, _, h1, h3, h4, h2, h5⟩
  · subst h2; exact ⟨none, 0, by simpa using h1, fun _ => ⟨rfl, rfl⟩, by omega⟩
  · exact ⟨_, cap, h0, (by intro e; cases e), h3⟩

theorem cell_alloc_old {w : World} {a : Addr} {v : Value} {o : Obj} (h : w.cell? a = some v) : (w.alloc o).cell? a = some v := by
  rw [← h]
  unfold World.cell?
  rw [Below.heap_alloc _ _ _ (World.block_lt_of_cell? w a h)]
theorem tl_lt (A n : Nat) (hA : A < 4294967296 ^ n) : A < 4294967296 ^ tl (wd A) n := by
  have h1 := tl_sum (wd A) n
  rw [ds_wd, ds_wd, Nat.pow_zero, Nat.div_one, Nat.mod_eq_of_lt hA] at h1
  have h2 := Nat.mod_lt A (Nat.pow_pos (n := tl (wd A) n) (by omega : 0 < 4294967296))
  omega
theorem byw_wrap (x : Int) : ((byw x).toNat : Int) = IntKind.u8.wrap x := by rw [byw_cell, IntKind.wrap_u8]
theorem w256 (n : Nat) : 4294967296 ^ n = 256 ^ (4 * n) := by rw [Nat.pow_mul]
set_option maxHeartbeats 2000000 in
theorem number_any (b n c A : Nat) (w : World) (hn : n ≤ c) (hc : c ≤ 1000) (ha : Wds w b n (wd A)) (lb : b < w.heap.size) (hA : A < 4294967296 ^ n) :
    Calls Try.prog 56 #[.slice (some ⟨b, 0, none⟩) n c] w fun e w' => e = .returned (.string (enc A)) ∧ Below w.heap.size w w' := by
  obtain ⟨i, hi, hz0, hz1, hz2⟩ := info_parts info_u8
  have htl := tl_le (wd A) n
  have hAt := tl_lt A n hA
  have htr := trim_any b n c (wd A) w hn hc ha
  obtain ⟨t, ht⟩ : ∃ t, tl (wd A) n = t := ⟨_, rfl⟩
  rw [ht] at htl hAt htr
  clear ht hA
  have HAT := Lib.hid hAt; clear hAt
  have ha := ha.take htl
  go_enter Try.func56, Try.ntmps56
  go_wp2_with (go_at_call 69; refine htr.mono ?_; rintro e w' ⟨rfl, rfl⟩)
  clear htr
  have i0 : ((t : Int) - 1) ≥ -1 := by omega
  go_loopw [3, 4] (fun v x wr => ∃ (m : Nat) (y : Int), m ≤ t ∧ x = .int .i64 y ∧ Hid (y = (m : Int) - 1) ∧ Hid (wr.ownsRow w.heap.size 5 1 v (4 * (t - m)) (byteCells (bytesL (4 * (t - m)) (A / 4294967296 ^ m)))) ∧ Below w.heap.size w wr)
    (fun _ x _ => (intOf x + 1).toNat)
  case atStart => exact ⟨t, _, by omega, rfl, rfl, by show World.ownsRow _ _ _ _ _ _ _; rw [Nat.sub_self]; exact World.ownsRow_nil _ _ _ _, Below.refl _ _⟩
  case round =>
    obtain ⟨m, y, hm, rfl, hy, hO, hb⟩ := hrel
    rcases m with _ | m
    · obtain rfl : y = -1 := by have := hy.out; simpa using this
      clear hy
      rw [Nat.sub_zero, Nat.pow_zero, Nat.div_one] at hO
      obtain ⟨L, hL⟩ : ∃ L, bytesL (4 * t) A = L := ⟨_, rfl⟩
      have hLl : L.length = 4 * t := by rw [← hL, length_bytesL]
      have hLv : nvL L = A := by rw [← hL, nvL_bytesL, ← w256, Nat.mod_eq_of_lt HAT.out]
      rw [hL] at hO
      have HLL := Lib.hid hLl
      have HLV := Lib.hid hLv
      clear hL hLl hLv
      rcases hO.out.2 with ⟨rfl, h0⟩ | ⟨g, cap, cur, rfl, hBg, _, hnc, hcm, _, _⟩
      · have t0 : t = 0 := by omega
        have hfin : enc A = ⟨#[]⟩ := by
          have := HAT.out
          rw [t0] at this
          have : A = 0 := by simpa using this
          rw [this]; rfl
        have HFIN := Lib.hid hfin
        clear h0 hO hfin
        go_wp2_with fail
        go_loop [3] (fun v => v = .slice none 0 0) (fun v => slen v)
        case atStart => rfl
        case round =>
          obtain rfl := hrel
          have hcv : (convert 69 22 (.slice none 0 0)).run Try.prog wr = .ok (.string ⟨#[]⟩) wr := Lib.run_convert_nil_bytes wr _ _ _ 0 Try.underlying69 Try.underlying5 Try.underlying22
          go_wp2_with fail
          go_ret
          exact ⟨ret_str (by rw [HFIN.out]), hb⟩
      · have hBA : Hid (BytesAt wr g 0 L) := by
          intro q hq
          rw [Nat.zero_add, hO.out.cellAt q (by rw [HLL.out] at hq; omega)]
          simp [byteCells, hq]
        clear hO
        go_wp2_with fail
        go_loop [3] (fun v => ∃ (r : List UInt8) (o c : Nat), r.length ≤ c ∧ c ≤ maxLen ∧ Hid (BytesAt wr g o r) ∧ Hid (nvL r = A) ∧ v = .slice (some ⟨g, o, none⟩) r.length c) (fun v => slen v)
        case atStart => exact ⟨L, 0, cap, by rw [HLL.out]; omega, hcm, hBA, HLV, by rw [HLL.out]⟩
        case round =>
          obtain ⟨r, o, c, hrc, hcc, hbr, hv, rfl⟩ := hrel
          clear hBA
          unfold maxLen at hcc
          have hcv := conv_back wr g o c r hbr.out
          cases r with
          | nil =>
            simp only [List.length_nil] at hcv
            go_wp2_with fail
            go_ret
            exact ⟨ret_str (by rw [← hv.out]; rfl), hb⟩
          | cons x r =>
            have hc0 : wr.cell? ⟨g, o, none⟩ = some (.int .u8 (x.toNat : Int)) := hbr.out 0 (by simp)
            simp only [List.length_cons] at hcv hrc
            by_cases hx : x = 0
            · subst hx
              have hc0' : wr.cell? ⟨g, o, none⟩ = some (.int .u8 0) := hc0
              clear hc0 hcv
              have hb1 : Hid (BytesAt wr g (o + 1) r) := hbr.out.tail
              have hv1 : Hid (nvL r = A) := by rw [← hv.out, nvL_cons]; simp [Hid]
              by_cases hc1 : c = 1
              · subst hc1
                obtain rfl : r = [] := by cases r with | nil => rfl | cons y r => simp at hrc
                go_wp2_with fail
                go_round
                case rel => exact ⟨[], o, 0, by simp, by unfold maxLen; omega, fun j hj => by simp at hj, hv1, rfl⟩
                case measure => simp [slen]
              · go_wp2_with fail
                go_round
                case rel => exact ⟨r, o + 1, c - 1, by omega, by unfold maxLen; omega, hb1, hv1, rfl⟩
                case measure => simp [slen]
            · have hx' : ((x.toNat : Int) == 0) = false := by
                rw [beq_eq_false_iff_ne]; intro e
                exact hx (UInt8.toNat_inj.1 (by simpa using e))
              go_wp2_with fail
              go_ret
              refine ⟨ret_str ?_, hb⟩
              rw [← hv.out]; unfold enc; rw [encL_nvL _ (by simp [hx])]
    · obtain rfl : y = m := by have := hy.out; omega
      clear hy
      have hc0 := ha.below hb lb m (by omega)
      have hc1 : wr.drew.cell? ⟨b, m, none⟩ = some (.int .u32 (wd A m)) := hc0
      have hmt : m < t := by omega
      obtain ⟨av, cv, rfl, hnone, hcap⟩ := owns_slice hO.out
      have hml : 4 * (t - (m + 1)) + 4 ≤ maxLen := by unfold maxLen; omega
      have hml2 : (4 * (t - (m + 1)) + 4) * 1 ≤ 140737488355328 := by omega
      have hml3 : Hid (∀ o : Obj, w.heap.size ≤ (wr.alloc o).drew.heap.size) := fun o => by have := hb.size; show _ ≤ (wr.alloc o).heap.size; simp; omega
      go_wp2_with fail
      have hne : some (⟨b, m, none⟩ : Addr).block ≠ (Value.slice av (4 * (t - (m + 1))) cv).ownBlock := fun e => by have := (hO.out.lt b e.symm).1; omega
      have hk1 : Hid (∀ o : Obj, (wr.alloc o).drew.cell? ⟨b, m, none⟩ = some (.int .u32 (wd A m))) := fun o => cell_alloc_old hc0
      have HNE := Lib.hid hne
      clear hne
      go_region_held_law (fun w' => w'.cell? ⟨b, m, none⟩ = some (.int .u32 (wd A m))) (first | assumption | go_keep) (((with_reducible refine step_append_lies _ ?b1 (.tmp 14) (.tmp 38) 69 ?b2 w.heap.size 5 i (.int .u8 0) 1 1 Try.underlying69 hi hz0 hz1 hz2 ?b3 ?b4 (.slice av (4 * (t - (m + 1))) cv) (4 * (t - (m + 1))) (byteCells (bytesL (4 * (t - (m + 1))) (A / 4294967296 ^ (m + 1)))) ?b5 ?b6 ⟨wr.heap.size, 0, none⟩ 4 4 (byteCells [byw (wd A m / 16777216), byw (wd A m / 65536), byw (wd A m / 256), byw (wd A m)]) ?b7 ?b8 ?b9 (Go.Lib.byteCells_one _) ?c0 ?c1 ?c2 ?c3 _ rfl ?c4); (case b1 => rfl); (case b2 => rfl); (case b3 => rfl); (case b4 => decide); (case b5 => simp [Act.eval]); (case b6 => exact hO.out.alloc _); (case b7 => simp [Act.eval]); (case b8 => rfl); (case b9 => exact cells_four (new_cell0 _ _ _ _) (new_cell0 _ _ _ _) (new_cell0 _ _ _ _) (new_cell0 _ _ _ _) (byw_wrap _) (byw_wrap _) (byw_wrap _) (byw_wrap _)); (case c0 => decide); (case c1 => exact hml); (case c2 => exact hml2); (case c3 => exact hml3.out _); intro g4 c4 w4 hO4 hG4 _ _; have hk4 := hG4.cell (hk1.out _) HNE.out))
      go_wp2_with fail
      have e4 : 4 * (t - (m + 1)) + 4 = 4 * (t - m) := by omega
      go_roundw
      case rel =>
        refine ⟨m, _, by omega, rfl, ?_, ?_, ?_⟩
        · show _ = _; rfl
        · show World.ownsRow _ _ _ _ _ _ _
          rw [← e4, bytesL_four _ (A / 4294967296 ^ m) (wd A m) rfl, Nat.div_div_eq_div_mul, ← Nat.pow_succ, byteCells_append]
          exact hO4
        · exact (hb.drew.alloc hb.size _).grown hG4 (hb.drew.alloc hb.size _).size (fun q e => (hO.out.lt q e).1)
      case measure => simp [intOf]

end Go.Proofs.Ytmbenndmkacjpaa
