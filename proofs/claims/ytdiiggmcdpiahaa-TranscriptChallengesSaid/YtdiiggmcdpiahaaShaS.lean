/- SHA-256 whole: hash.Sum is the plain function sha of the bytes. -/
import Derived.Test.YtdiiggmcdpiahaaShaR
import Derived.Test.YtdiiggmcdpiahaaBytes
namespace Go.Proofs.Ytdiiggmcdpiahaa
open Go.RowKit Num
open Go.Lib (byteCells byteCells_length byteCells_append)
set_option maxRecDepth 20000

/-- how many zero bytes are laid behind the first padding byte -/
def padz (n : Nat) : Nat := (119 - n % 64) % 64
def padL (l : List UInt8) : List UInt8 := l ++ 128 :: (List.replicate (padz l.length) 0 ++ bytesL 8 (8 * l.length))
/-- byte j of block i -/
def blk (l : List UInt8) (i : Nat) : Nat → Int := fun j => ((((l.drop (64 * i)).take 64).getD j 0).toNat : Int)
/-- the state behind i blocks -/
def stt (l : List UInt8) : Nat → Nat → Int
  | 0 => hf
  | i + 1 => aft (blk l i) (stt l i)
/-- the bytes of k words -/
def outL (s : Nat → Int) : Nat → List UInt8
  | 0 => []
  | k + 1 => outL s k ++ [byw (s k / 16777216), byw (s k / 65536), byw (s k / 256), byw (s k)]
/-- SHA-256 -/
def sha (l : List UInt8) : ByteArray := ⟨(outL (stt (padL l) ((padL l).length / 64)) 8).toArray⟩

theorem length_outL (s : Nat → Int) : ∀ k, (outL s k).length = 4 * k
  | 0 => rfl
  | k + 1 => by simp [outL, length_outL s k]; omega
theorem size_sha (l : List UInt8) : (sha l).size = 32 := by simp [sha, ByteArray.size, length_outL]
theorem padz_spec (n : Nat) : (n + 1 + padz n) % 64 = 56 := by unfold padz; omega
theorem padz_lt (n : Nat) : padz n < 64 := by unfold padz; omega
theorem padz_low (n j : Nat) (h : j < padz n) : (n + 1 + j) % 64 ≠ 56 := by unfold padz at h; omega
theorem length_padL (l : List UInt8) : (padL l).length = l.length + 1 + padz l.length + 8 := by simp [padL, length_bytesL]; omega
theorem padL_mod (l : List UInt8) : (padL l).length % 64 = 0 := by rw [length_padL]; have := padz_spec l.length; omega
theorem blk_by (l : List UInt8) (i : Nat) : IsBy 64 (blk l i) := by
  intro j _
  have := (((l.drop (64 * i)).take 64).getD j 0).toNat_lt
  unfold blk; omega
theorem run_index_arr {P : Program} (w : World) (t e : TypeId) (n : Nat) (k q : IntKind) (f : Nat → Int) (i : Nat) (hi : i < n) (hu : P.underlying t = some (.array n e)) (hq : P.underlying e = some (.int k)) (he : (P.info? e).map (·.size) = some 1) :
    (Instr.index t (.agg (icells k n f)) (.int q i)).run P w = .ok (.int k (f i)) w := by
  have hg := icells_get k n f i hi
  cases hq' : P.info? e with
  | none => simp [hq'] at he
  | some j =>
    have hs : j.size = 1 := by simpa [hq'] using he
    simp [Instr.index, run_underlying hu, asIntOf, hi, sizeOf, typeInfo, hq', hs, part, isAgg, run_underlying hq, hg]
/-- a whole array of integers out of its block, in a region that draws its order -/
theorem wpStill_load_arr {P : Program} {ops : Array Oper} {rest : List Oper} {o : Oper} {a : Act} {w : World} {Q : Act → Prop} {k : IntKind} {n : Nat} {f : Nat → Int} (hgd : o.guard = none) (ty : TypeId) (x : Operand) (ho : o.op = .load ty x)
    (b : Nat) (hx : a.eval x = .pointer (some ⟨b, 0, none⟩)) {t : TypeId} (ha : Arr w b t k n f)
    (m : Nat) (e : TypeId) (hu : P.underlying ty = some (.array m e)) (hi : (P.info? ty).map (·.size) = some n)
    (h : wpStill P ops w Q rest (a.put o.dst (.agg (icells k n f)))) : wpStill P ops w Q (o :: rest) a := by
  refine wpStill_step (fun K hK => ?_)
  rw [if_pos (by simp [Region.wanted, hgd])]
  unfold Oper.still execOp
  simp only [ho, hx, Instr.loadAt, Instr.sureAddr, Sem.run_bind, Sem.run_pure, Result.andThen_ok, run_loadVar_row w b t ty (icells k n f) (0, 0) _ ha hu rfl (by rw [size_icells]; exact hi)]
  exact ⟨rfl, hK _ h⟩
theorem Own.byf {w : World} {b c : Nat} {l : List UInt8} (h : Own w b l c) (i : Nat) (hi : 64 * (i + 1) ≤ l.length) : ByF w b (64 * i) 64 (blk l i) := by
  intro j hj
  rw [h.get (64 * i + j) (by omega)]
  unfold blk
  rw [List.getD_eq_getElem?_getD, List.getElem?_take, if_pos hj, List.getElem?_drop, List.getElem?_eq_getElem (show 64 * i + j < l.length by omega)]
  rfl
theorem conv_str (w : World) (b o c : Nat) (r : List UInt8) (h : BytesAt w b o r) :
    (convert 49 9 (.slice (some ⟨b, o, none⟩) r.length c)).run Try.prog w = .ok (.string ⟨r.toArray⟩) w :=
  run_convert_bytes_back w 49 9 5 ⟨b, o, none⟩ c r Try.underlying49 Try.underlying5 Try.underlying9 (by
    intro j hj
    rw [show (⟨b, o, none⟩ : Addr).add j = ⟨b, o + j, none⟩ from by unfold Addr.add; simp]
    exact h j hj)

set_option maxHeartbeats 4000000 in
theorem Sum_any (s : ByteArray) (w : World) (hs : s.size ≤ 900000) :
    Calls Try.prog 61 #[.string s] w fun e w' => e = .returned (.string (sha s.data.toList)) ∧ Below w.heap.size w w' := by
  obtain ⟨i, hi, hz0, hz1, hz2⟩ := info_parts info_u8
  obtain ⟨i8, hi8, hz8, hs8⟩ := zero_parts info_w8
  have hl : s.data.toList.length = s.size := (Go.Lib.size_eq s).symm
  obtain ⟨l, hl0⟩ : ∃ l, s.data.toList = l := ⟨_, rfl⟩
  rw [hl0] at hl ⊢
  have HL0 := Lib.hid hl0
  clear hl0
  obtain ⟨n, hn⟩ : ∃ n, s.size = n := ⟨_, rfl⟩
  have hnn : n ≤ 900000 := by omega
  have hln : l.length = n := by omega
  have HL := Lib.hid hln
  have HN := Lib.hid hn
  clear hln hl hs
  go_enter Try.func61, Try.ntmps61
  go_wp2_with (first
    | (at_make; refine wpList_make_cap w rfl _ _ _ rfl 5 i .u8 1 Try.underlying49 hi hz0 hz1 hz2 _ _ _ _ n (n + 72) rfl rfl ?_ ?_ ?_ ?_ ?_ ?_ <;> first | (intro w1 ha hb hsz) | omega | (unfold maxLen; omega))
    | (with_reducible refine at_list ?_; refine wpList_copy_own_string (w := w1) rfl (.tmp 16) (.tmp 17) 49 9 rfl w.heap.size n (n + 72) s (fun _ => 0) rfl rfl ha HN.out (by omega) (by unfold maxLen; omega) Try.underlying49 (by rw [hi]; simp [hz1]) ?_; intro w2 hO hB2; rw [HL0.out] at hO; replace hB2 := hB2 _ (Nat.le_refl _))
    | (at_builtin; refine wpList_append_own1 _ rfl (.tmp 19) (.tmp 20) 49 rfl i Try.underlying49 hi hz1 w.heap.size n (n + 72) l rfl HL.out.symm (hO.alloc _) ⟨w2.heap.size, 0, none⟩ 1 1 [128] rfl rfl (cells_one (new_cell0 _ _ _ _) rfl) (by simp; have := HL.out; omega) ?_; intro w3 hO3 hB3; replace hB3 := hB3 _ (Nat.le_refl _)))
  clear ha
  have hbA := hb.trans ((hB2.alloc (Nat.le_trans (Nat.le_of_lt hsz) hB2.size) (.cells #[.int .u8 128] 5)).trans hB3)
  clear hb hsz hO hB2 hB3
  go_loopw [3] (fun v wr => ∃ j : Nat, j ≤ padz n ∧ v = .slice (some ⟨w.heap.size, 0, none⟩) (n + 1 + j) (n + 72) ∧ Own wr w.heap.size (l ++ 128 :: List.replicate j 0) (n + 72) ∧ Below w.heap.size w wr)
    (fun v _ => n + 1 + padz n - slen v)
  case atStart => exact ⟨0, by omega, rfl, hO3, hbA⟩
  case round =>
    clear hO3 hbA
    obtain ⟨j, hj, rfl, hO, hb⟩ := hrel
    have hp := padz_lt n
    by_cases hlt : j < padz n
    · have hne := padz_low n j hlt
      have hnz : (((n : Int) + 1 + (j : Int)) % 64 == 56) = false := by rw [beq_eq_false_iff_ne]; omega
      have hnz' : (((n : Int) + 1 + (j : Int)) % 64 != 56) = true := by rw [bne_iff_ne]; omega
      have hn2 : (l ++ 128 :: List.replicate j 0).length = n + 1 + j := by simp; have := HL.out; omega
      have HN2 := Lib.hid hn2
      clear hn2
      have hsz := hO.lt
      go_wp2_with (at_builtin; refine wpList_append_own1 _ rfl (.tmp 26) (.tmp 27) 49 rfl i Try.underlying49 hi hz1 w.heap.size (n + 1 + j) (n + 72) _ rfl HN2.out.symm (hO.alloc _) ⟨wr.heap.size, 0, none⟩ 1 1 [0] rfl rfl (cells_one (new_cell0 _ _ _ _) rfl) (by rw [HN2.out]; simp; omega) ?_; intro w4 hO4 hB4; replace hB4 := hB4 _ (Nat.le_refl _))
      go_roundw
      case rel =>
        refine ⟨j + 1, by omega, rfl, ?_, (hb.alloc (Nat.le_of_lt hsz) _).trans hB4⟩
        rw [List.replicate_succ', ← List.cons_append, ← List.append_assoc]
        exact hO4
      case measure => simp [slen]; omega
    · obtain rfl : j = padz n := by omega
      have hnz : (((n : Int) + 1 + (padz n : Int)) % 64 == 56) = true := by have := padz_spec n; rw [beq_iff_eq]; omega
      have hnz' : (((n : Int) + 1 + (padz n : Int)) % 64 != 56) = false := by have := padz_spec n; rw [bne_eq_false_iff_eq]; omega
      clear hj hlt
      obtain ⟨z, hz⟩ : ∃ z, padz n = z := ⟨_, rfl⟩
      have HZ := Lib.hid hz
      rw [hz] at hO hnz hnz' hp ⊢
      clear hz
      obtain ⟨wo, rfl⟩ : ∃ wo : World, wo = wr := ⟨_, rfl⟩
      go_wp2_with fail
      clear hnz hnz'
      go_loopw [3, 5] (fun v sh wr => ∃ k : Nat, k ≤ 8 ∧ sh = .int .i64 (56 - 8 * (k : Int)) ∧ v = .slice (some ⟨w.heap.size, 0, none⟩) (n + 1 + z + k) (n + 72) ∧ Own wr w.heap.size (l ++ 128 :: (List.replicate z 0 ++ (bytesL 8 (8 * n)).take k)) (n + 72) ∧ Below w.heap.size w wr)
        (fun v _ _ => n + 1 + z + 8 - slen v)
      case atStart => exact ⟨0, by omega, rfl, rfl, by simpa using hO, hb⟩
      case round =>
        clear hO hb
        obtain ⟨k, hk, rfl, rfl, hO, hb⟩ := hrel
        have hsz := hO.lt
        by_cases hlt : k < 8
        · have hsh : ((56 : Int) - 8 * (k : Int)).toNat = 8 * (7 - k) := by omega
          have h0 : (0 : Int) ≤ 56 - 8 * (k : Int) := by omega
          have hn2 : (l ++ 128 :: (List.replicate z 0 ++ (bytesL 8 (8 * n)).take k)).length = n + 1 + z + k := by
            simp [length_bytesL]; have := HL.out; omega
          have hy : ((UInt8.ofNat (8 * n / 256 ^ (7 - k))).toNat : Int) = (n : Int) * 8 / 2 ^ (8 * (7 - k)) % 256 := by
            rw [UInt8.toNat_ofNat', show (256 : Nat) ^ (7 - k) = 2 ^ (8 * (7 - k)) from by rw [Nat.pow_mul], Nat.mul_comm 8 n]
            simp
          have HN2 := Lib.hid hn2
          have HY := Lib.hid hy
          clear hn2 hy
          go_wp2_with (at_builtin; refine wpList_append_own1 _ rfl (.tmp 37) (.tmp 42) 49 rfl i Try.underlying49 hi hz1 w.heap.size (n + 1 + z + k) (n + 72) _ rfl HN2.out.symm (hO.alloc _) ⟨wr.heap.size, 0, none⟩ 1 1 [UInt8.ofNat (8 * n / 256 ^ (7 - k))] rfl rfl (cells_one (new_cell0 _ _ _ _) HY.out) (by rw [HN2.out]; simp; omega) ?_; intro w4 hO4 hB4; replace hB4 := hB4 _ (Nat.le_refl _))
          clear hsh h0
          go_roundw
          case rel =>
            refine ⟨k + 1, by omega, by go_num, rfl, ?_, (hb.alloc (Nat.le_of_lt hsz) _).trans hB4⟩
            rw [bytesL_take _ _ hlt, ← List.append_assoc, ← List.cons_append, ← List.append_assoc]
            exact hO4
          case measure => simp [slen]; omega
        · obtain rfl : k = 8 := by omega
          have hpad : l ++ 128 :: (List.replicate z 0 ++ (bytesL 8 (8 * n)).take 8) = padL l := by
            unfold padL; rw [HL.out, HZ.out, List.take_of_length_le (by rw [length_bytesL]; omega)]
          rw [hpad] at hO
          have hlen : (padL l).length = n + 1 + z + 8 := by rw [length_padL, HL.out, HZ.out]
          have hmod := padL_mod l
          obtain ⟨M, hM⟩ : ∃ M, n + 1 + z + 8 = 64 * M := ⟨(n + 1 + z + 8) / 64, by omega⟩
          have hc72 : 64 * M ≤ n + 72 := by omega
          have hl64 : (padL l).length = 64 * M := by omega
          rw [hM]
          have HL64 := Lib.hid hl64
          clear hpad hlen hmod hM hl64 hk hlt
          go_wp2_with (first
            | (go_at_call 78; refine (first_any _).mono ?_; rintro e w5 ⟨rfl, hB5⟩)
            | (with_reducible refine at_list ?_; refine wpList_alloc_arr w5 rfl 107 rfl i8 _ .u32 8 (fun _ => 0) hi8 hz8 rfl ?_; intro w6 hA6 hB6 hS6)
            | (with_reducible refine at_list ?_; refine wpList_store_arr (w := w6) rfl 107 _ _ rfl w5.heap.size rfl rfl hA6 (by kernel_rfl) ?_; intro w7 hA7 hS7 hO7 hB7))
          have s5 := hB5.size
          have hO := ((hO.below hB5 hsz).below hB6 (by omega)).below (hB7 w5.heap.size (Nat.le_refl _)) (by omega)
          have hb := ((hb.trans (hB5.mono (by omega))).trans (hB6.mono (by omega))).trans (hB7 w.heap.size (by omega))
          have oS : w.heap.size < w5.heap.size := by omega
          have oT : w5.heap.size < w7.heap.size := by omega
          clear hB5 hB6 hB7 hA6 hO7 hS7 hS6 s5 hi8 hz8 hs8 hsz HN HL HZ HL0
          generalize w5.heap.size = nS at hA7 oS oT hO ⊢
          go_frame
          go_loopw [3] (fun v wr => ∃ (k o c : Nat), k ≤ M ∧ v = .slice (some ⟨w.heap.size, o, none⟩) (64 * (M - k)) c ∧ 64 * (M - k) ≤ c ∧ c ≤ 900072 ∧ Hid (k < M → o = 64 * k) ∧ Arr wr nS 107 .u32 8 (stt (padL l) k) ∧ Below nS w7 wr)
            (fun v _ => slen v)
          case atStart => exact ⟨0, 0, n + 72, by omega, by rw [Nat.sub_zero], by omega, by omega, fun _ => rfl, hA7, Below.refl _ _⟩
          case round =>
            clear hA7
            obtain ⟨k, o, c, hk, rfl, hc, hc2, ho, hA, hb'⟩ := hrel
            by_cases hlt : k < M
            · obtain rfl : o = 64 * k := ho.out hlt
              clear ho
              have hO' := hO.below hb' (by omega)
              have hby := hO'.byf k (by rw [HL64.out]; omega)
              have g1 : (64 : Int) ≤ c := by omega
              have g2 : 0 < 64 * (M - k) := by omega
              have g3 : 64 ≤ 64 * (M - k) := by omega
              go_wp2_with fail
              refine wp_region_still_tail 3 (by kernel_rfl) (by kernel_rfl) ?_
              simp only [List.take_succ_cons, List.take_zero, List.drop_succ_cons, List.drop_zero]
              refine wpStill_load_arr rfl 107 _ rfl nS rfl hA.drew 8 72 (by kernel_rfl) (by kernel_rfl) ?_
              iterate 2 still_step
              refine wpStill_nil ?_
              change wpList _ _ _ _ _ wr.drew
              go_wp2_with fail
              refine (after_any w.heap.size (64 * k) c (blk (padL l) k) (stt (padL l) k) wr.drew (by omega) (by omega) (fun j hj => hby j hj) (blk_by _ _)).mono ?_
              rintro e w8 ⟨rfl, hB8⟩
              go_wp2_with (with_reducible refine at_list ?_; refine wpList_store_arr (w := w8) rfl 107 _ _ rfl nS rfl rfl (hA.drew.below hB8 hA.drew.lt) (by kernel_rfl) ?_; intro w9 hA9 hS9 hO9 hB9)
              have hbN := (hb'.drew.trans (hB8.mono (Nat.le_of_lt hA.lt))).trans (hB9 nS (Nat.le_refl _))
              have e1 : 64 * (M - k) - 64 = 64 * (M - (k + 1)) := by omega
              refine ⟨⟨k + 1, if c = 64 then 64 * k else 64 * k + 64, c - 64, by omega, ?_, by omega, by omega, ?_, hA9, hbN⟩, by simp [slen]; omega⟩
              · rw [e1]; by_cases h64 : c = 64 <;> simp [h64]
              · intro h; rw [if_neg (by omega)]; omega
            · obtain rfl : k = M := by omega
              clear hlt ho hc hc2 hk
              have hMl := HL64.out
              rw [show 64 * (k - k) = 0 from by omega]
              have hbA := hb.trans (hb'.mono (Nat.le_of_lt oS))
              clear hb hb' hO
              obtain ⟨wq, rfl⟩ : ∃ wq : World, wq = wr := ⟨_, rfl⟩
              go_wp2_with (with_reducible refine at_list ?_; refine wpList_load_arr (w := wq) rfl 107 _ rfl nS rfl hA 8 72 (by kernel_rfl) (by kernel_rfl) ?_)
              obtain ⟨f, hf0⟩ : ∃ f, stt (padL l) k = f := ⟨_, rfl⟩
              rw [hf0] at hA ⊢
              have HF := Lib.hid hf0
              clear hf0 hA hMl
              go_loopw [7, 55] (fun v x wr => ∃ j : Nat, j ≤ 8 ∧ x = .int .i64 j ∧ Hid (wr.ownsRow wq.heap.size 5 1 v (4 * j) (byteCells (outL f j))) ∧ Below wq.heap.size wq wr)
                (fun _ x _ => 8 - (intOf x).toNat)
              case atStart => exact ⟨0, by omega, rfl, World.ownsRow_nil _ _ _ _, Below.refl _ _⟩
              case round =>
                obtain ⟨j, hj, rfl, hO, hb⟩ := hrel
                by_cases hlt : j < 8
                · have hix : ∀ W, (Instr.index 107 (.agg (icells .u32 8 f)) (.int .i64 (j : Int))).run Try.prog W = .ok (.int .u32 (f j)) W := fun W => run_index_arr W 107 72 8 .u32 .i64 f j hlt (by kernel_rfl) (by kernel_rfl) (by kernel_rfl)
                  have hsz := hb.size
                  go_wp2_with (at_builtin; refine wpList_append_own _ rfl (.tmp 58) (.tmp 70) 49 rfl wq.heap.size 5 i (.int .u8 0) 1 1 Try.underlying49 hi hz0 hz1 hz2 rfl (by decide) u7 (4 * j) (byteCells (outL f j)) rfl (hO.out.alloc _) ⟨wr.heap.size, 0, none⟩ 4 4 (byteCells [byw (f j / 16777216), byw (f j / 65536), byw (f j / 256), byw (f j)]) rfl rfl (cells_four (new_cell0 _ _ _ _) (new_cell0 _ _ _ _) (new_cell0 _ _ _ _) (new_cell0 _ _ _ _) (byw_cell _) (byw_cell _) (byw_cell _) (byw_cell _)) (Go.Lib.byteCells_one _) (by unfold maxLen; omega) (by omega) (by simp; omega) ?_; intro v' w4 hO4 hG4 _)
                  go_roundw
                  case rel => exact ⟨j + 1, by omega, by go_num, by show World.ownsRow _ _ _ _ _ _ _; rw [outL, byteCells_append]; exact hO4, (hb.alloc hsz _).grown hG4 (by simp; omega) (fun q e => (hO.out.lt q e).1)⟩
                  case measure => simp [intOf]; omega
                · obtain rfl : j = 8 := by omega
                  have hlo := length_outL f 8
                  have hOr := hO.out
                  rcases hOr.2 with ⟨_, h0⟩ | ⟨g, cap, cur, rfl, hBg, _, hnc, hcm, _, _⟩
                  · omega
                  · have hcv := conv_str wr g 0 cap (outL f 8) (by
                      intro q hq
                      rw [Nat.zero_add, hOr.cellAt q (by omega)]
                      simp [byteCells, hq])
                    rw [hlo] at hcv
                    have hbE := hbA.trans (hb.mono hbA.size)
                    have hfin : (⟨(outL f 8).toArray⟩ : ByteArray) = sha l := by unfold sha; rw [HL64.out, Nat.mul_div_cancel_left _ (by omega), HF.out]
                    clear hOr hO hb hlo
                    rw [hfin] at hcv
                    clear hfin
                    go_wp2_with fail
                    go_ret
                    exact ⟨rfl, hbE⟩
end Go.Proofs.Ytdiiggmcdpiahaa
