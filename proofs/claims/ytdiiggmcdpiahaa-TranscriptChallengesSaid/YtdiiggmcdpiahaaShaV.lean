/- SHA-256 as the reference has it: padding, and the hash (dominoref05.padded, Sum). -/
import Derived.Test.YtdiiggmcdpiahaaShaU
namespace Go.Proofs.Ytdiiggmcdpiahaa
open Go.RowKit Num
open Go.Lib (byteCells byteCells_length byteCells_append)
set_option maxRecDepth 20000

def strLen : Value → Nat | .string s => s.size | _ => 0
set_option maxHeartbeats 2000000 in
theorem refpadded_any (l : List UInt8) (w : World) (hs : l.length ≤ 900000) :
    Calls Try.prog 41 #[.string (str l)] w fun e w' => e = .returned (.string (str (padL l))) ∧ Below w.heap.size w w' := by
  obtain ⟨i, hi, hz0, hz1, hz2⟩ := info_parts info_u8
  obtain ⟨n, hn⟩ : ∃ n, l.length = n := ⟨_, rfl⟩
  have hz := size_str l
  rw [hn] at hz hs
  have HN := Lib.hid hn
  clear hn
  go_enter Try.func41, Try.ntmps41
  go_wp2_with fail
  clear hz
  go_loop [0] (fun v => ∃ j : Nat, j ≤ padz n ∧ v = .string (str (l ++ 128 :: List.replicate j 0))) (fun v => n + 1 + padz n - strLen v)
  case atStart => exact ⟨0, by omega, congrArg Value.string (str_append l [128])⟩
  case round =>
    obtain ⟨j, hj, rfl⟩ := hrel
    have hp := padz_lt n
    have hn2 : (str (l ++ 128 :: List.replicate j 0)).size = n + 1 + j := by rw [size_str]; simp; have := HN.out; omega
    by_cases hlt : j < padz n
    · have hne := padz_low n j hlt
      have hnz : (((n : Int) + 1 + (j : Int)) % 64 == 56) = false := by rw [beq_eq_false_iff_ne]; omega
      have hnz' : (((n : Int) + 1 + (j : Int)) % 64 != 56) = true := by rw [bne_iff_ne]; omega
      go_wp2_with fail
      go_round
      case rel =>
        refine ⟨j + 1, by omega, congrArg Value.string ((str_append _ [0]).trans ?_)⟩
        rw [List.replicate_succ', ← List.cons_append, ← List.append_assoc]
      case measure =>
        simp only [strLen, ByteArray.size_append]
        rw [hn2, show (ByteArray.mk #[0]).size = 1 from rfl]
        omega
    · obtain rfl : j = padz n := by omega
      have hnz : (((n : Int) + 1 + (padz n : Int)) % 64 == 56) = true := by have := padz_spec n; rw [beq_iff_eq]; omega
      have hnz' : (((n : Int) + 1 + (padz n : Int)) % 64 != 56) = false := by have := padz_spec n; rw [bne_eq_false_iff_eq]; omega
      clear hj hlt
      go_wp2_with (at_make; refine wpList_make_arr w rfl _ _ _ rfl 5 i .u8 1 Try.underlying49 hi hz0 hz1 hz2 _ _ _ _ 8 rfl rfl ?_ ?_ ?_ ?_ ?_ <;> first | (intro w1 ha hb hsz) | omega | (unfold maxLen; omega))
      clear hnz hnz' hz0 hz1 hz2 hi
      go_loopw [5, 6] (fun v x wr => ∃ (k : Nat) (f : Nat → Int), k ≤ 8 ∧ x = .int .i64 (7 - (k : Int)) ∧ v = .int .u64 ((8 * n / 256 ^ k : Nat) : Int) ∧ Arr wr w.heap.size 5 .u8 8 f ∧ Filled 8 (8 * n) k f ∧ Below w.heap.size w wr)
        (fun _ x _ => (intOf x + 1).toNat)
      case atStart => exact ⟨0, _, by omega, rfl, by simp; omega, ha, Filled.zero _ _, hb⟩
      case round =>
        clear ha hb
        obtain ⟨k, f, hk, rfl, rfl, ha, hf, hb⟩ := hrel
        by_cases hlt : k < 8
        · have hc := ha.cell (show 7 - k < 8 by omega)
          have hfr := ha.free (7 - k)
          have hq : 8 * n / 256 ^ k ≤ 8 * n := Nat.div_le_self _ _
          obtain ⟨Q, hQ⟩ : ∃ Q, 8 * n / 256 ^ k = Q := ⟨_, rfl⟩
          rw [hQ] at hq ⊢
          have HQ := Lib.hid hQ
          clear hQ
          go_wp2_with fail
          go_roundw
          case rel =>
            refine ⟨k + 1, _, by omega, by go_num, ?_, ha.set _ _, hf.step hlt (by omega) ?_, hb.setCell (Nat.le_refl _) _⟩
            · rw [Nat.pow_succ, ← Nat.div_div_eq_div_mul, HQ.out]; simp
            · unfold dg; rw [HQ.out]; simp
          case measure => simp [intOf]; omega
        · obtain rfl : k = 8 := by omega
          have hb8 : BytesAt wr w.heap.size 0 (bytesL 8 (8 * n)) := by
            intro q hq
            rw [length_bytesL] at hq
            rw [Nat.zero_add, ha.cell hq, hf.done q hq]
            simp [bytesL, dg]
          have hcv := conv_str wr w.heap.size 0 8 (bytesL 8 (8 * n)) hb8
          rw [length_bytesL] at hcv
          have hfin : str (l ++ 128 :: List.replicate (padz n) 0) ++ (⟨(bytesL 8 (8 * n)).toArray⟩ : ByteArray) = str (padL l) := by
            refine (str_append _ (bytesL 8 (8 * n))).trans ?_
            unfold padL; rw [HN.out]; simp
          have HF := Lib.hid hfin
          have hsz8 : (⟨(bytesL 8 (8 * n)).toArray⟩ : ByteArray).size = 8 := by simp [ByteArray.size, length_bytesL]
          clear hfin hlt hk hb8
          go_wp2_with fail
          go_ret
          exact ⟨ret_str HF.out, hb⟩

set_option maxHeartbeats 4000000 in
theorem refSum_any (s : ByteArray) (w : World) (hs : s.size ≤ 900000) :
    Calls Try.prog 23 #[.string s] w fun e w' => e = .returned (.string (sha s.data.toList)) ∧ Below w.heap.size w w' := by
  obtain ⟨i, hi, hz0, hz1, hz2⟩ := info_parts info_u8
  have hsl : s.data.toList.length = s.size := (Go.Lib.size_eq s).symm
  have hsd := str_data s
  obtain ⟨l, hl⟩ : ∃ l, s.data.toList = l := ⟨_, rfl⟩
  rw [hl] at hsl hsd ⊢
  subst hsd
  clear hl
  have hln : l.length ≤ 900000 := by omega
  clear hs hsl
  have hlp := length_padL l
  have hpz := padz_lt l.length
  have hpm := padL_mod l
  obtain ⟨L, hL⟩ : ∃ L, padL l = L := ⟨_, rfl⟩
  obtain ⟨M, hM⟩ : ∃ M, L.length = 64 * M := ⟨L.length / 64, by rw [← hL]; omega⟩
  have hMb : 64 * M ≤ 900072 := by rw [← hM, ← hL]; omega
  have HL := Lib.hid hL
  have HM := Lib.hid hM
  have hfin : sha l = str (outL (stt L M) 8) := by unfold sha; rw [hL, hM, Nat.mul_div_cancel_left _ (by omega)]; rfl
  rw [hfin]
  clear hL hM hlp hpz hpm hfin
  have hsz := size_str L
  rw [HM.out] at hsz
  go_enter Try.func23, Try.ntmps23
  go_wp2_with (go_at_call 41; refine (refpadded_any l _ hln).mono ?_; rw [HL.out]; rintro e w1 ⟨rfl, hb⟩)
  have hcs : #[Value.int IntKind.u32 1779033703, Value.int IntKind.u32 3144134277, Value.int IntKind.u32 1013904242, Value.int IntKind.u32 2773480762, Value.int IntKind.u32 1359893119, Value.int IntKind.u32 2600822924, Value.int IntKind.u32 528734635, Value.int IntKind.u32 1541459225] = icells .u32 8 hf := by kernel_rfl
  have hA0 := Arr.made (w := w) (t := 72) hcs
  have hA1 : Arr w1 w.heap.size 72 .u32 8 (stt L 0) := hA0.below hb hA0.lt
  have hb1 : Below w.heap.size w w1 := ((Below.refl _ _).alloc (Nat.le_refl _) _).trans (hb.mono (by simp))
  clear hcs hA0 hb
  go_loopw [3, 5] (fun v x wr => ∃ (k g : Nat), k ≤ M ∧ x = .int .i64 (64 * (k : Int)) ∧ v = .slice (some ⟨g, 0, none⟩) 8 8 ∧ Arr wr g 72 .u32 8 (stt L k) ∧ Below w.heap.size w wr)
    (fun _ x _ => 64 * M - (intOf x).toNat)
  case atStart => exact ⟨0, _, by omega, rfl, rfl, hA1, hb1⟩
  case round =>
    clear hA1 hb1
    obtain ⟨k, g, hk, rfl, rfl, hA, hb⟩ := hrel
    by_cases hlt : k < M
    · have hex : (str L).extract (64 * k) (64 * k + 64) = str ((L.drop (64 * k)).take 64) := by
        apply ByteArray.ext
        simp [str]
      have hxs : ((str L).extract (64 * k) (64 * k + 64)).size = 64 := by
        rw [hex, size_str, List.length_take, List.length_drop, HM.out]; omega
      have hby : sby ((str L).extract (64 * k) (64 * k + 64)) = blk L k := by
        rw [hex]; funext q; unfold sby; rw [data_str]; rfl
      have HX := Lib.hid hxs
      have HY := Lib.hid hby
      clear hxs hby hex
      go_wp2_with fail
      refine (refcompress_any _ g (stt L k) _ HX.out hA).mono ?_
      rw [HY.out]
      rintro e w2 ⟨g2, rfl, hA2, hb2⟩
      go_wp2_with fail
      have hb3 := hb.trans (hb2.mono hb.size)
      exact ⟨⟨k + 1, g2, by omega, by go_num, rfl, hA2, hb3⟩, by simp [intOf]; omega⟩
    · obtain rfl : k = M := by omega
      clear hlt hk
      obtain ⟨f, hf0⟩ : ∃ f, stt L k = f := ⟨_, rfl⟩
      rw [hf0] at hA
      have HF := Lib.hid hf0
      clear hf0
      obtain ⟨wq, rfl⟩ : ∃ wq : World, wq = wr := ⟨_, rfl⟩
      go_wp2_with fail
      go_loopw [6, 7] (fun v x wr => ∃ j : Nat, j ≤ 8 ∧ x = .int .i64 j ∧ Hid (wr.ownsRow wq.heap.size 5 1 v (4 * j) (byteCells (outL f j))) ∧ Below wq.heap.size wq wr)
        (fun _ x _ => 8 - (intOf x).toNat)
      case atStart => exact ⟨0, by omega, rfl, World.ownsRow_nil _ _ _ _, Below.refl _ _⟩
      case round =>
        obtain ⟨j, hj, rfl, hO, hb'⟩ := hrel
        by_cases hlt : j < 8
        · have c0 := (hA.below hb' hA.lt).cell hlt
          have hsz := hb'.size
          go_wp2_with (at_builtin; refine wpList_append_own _ rfl (.tmp 33) (.tmp 45) 49 rfl wq.heap.size 5 i (.int .u8 0) 1 1 Try.underlying49 hi hz0 hz1 hz2 rfl (by decide) u6 (4 * j) (byteCells (outL f j)) rfl (hO.out.alloc _) ⟨wr.heap.size, 0, none⟩ 4 4 (byteCells [byw (f j / 16777216), byw (f j / 65536), byw (f j / 256), byw (f j)]) rfl rfl (cells_four (new_cell0 _ _ _ _) (new_cell0 _ _ _ _) (new_cell0 _ _ _ _) (new_cell0 _ _ _ _) (byw_cell _) (byw_cell _) (byw_cell _) (byw_cell _)) (Go.Lib.byteCells_one _) (by unfold maxLen; omega) (by omega) (by simp; omega) ?_; intro v' w4 hO4 hG4 _)
          go_roundw
          case rel => exact ⟨j + 1, by omega, by go_num, by show World.ownsRow _ _ _ _ _ _ _; rw [outL, byteCells_append]; exact hO4, (hb'.alloc hsz _).grown hG4 (by simp; omega) (fun q e => (hO.out.lt q e).1)⟩
          case measure => simp [intOf]; omega
        · obtain rfl : j = 8 := by omega
          have hlo := length_outL f 8
          have hOr := hO.out
          rcases hOr.2 with ⟨_, h0⟩ | ⟨gg, cap, cur, rfl, hBg, _, hnc, hcm, _, _⟩
          · omega
          · have hcv := conv_str wr gg 0 cap (outL f 8) (by
              intro q hq
              rw [Nat.zero_add, hOr.cellAt q (by omega)]
              simp [byteCells, hq])
            rw [hlo] at hcv
            have hbE := hb.trans (hb'.mono hb.size)
            rw [show (⟨(outL f 8).toArray⟩ : ByteArray) = str (outL f 8) from rfl] at hcv
            clear hOr hO hb' hlo
            go_wp2_with fail
            go_ret
            exact ⟨ret_str (by rw [HF.out]), hbE⟩
end Go.Proofs.Ytdiiggmcdpiahaa
