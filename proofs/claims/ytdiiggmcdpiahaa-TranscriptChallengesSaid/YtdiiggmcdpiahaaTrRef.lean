/- dominoref12: Eight, Hash, New, Add, Nats, Ints return hashes of frames. -/
import Derived.Test.YtdiiggmcdpiahaaTr
namespace Go.Proofs.Ytdiiggmcdpiahaa
open Go.RowKit Num
open Go.Lib (byteCells byteCells_length byteCells_append)
set_option maxRecDepth 20000

theorem bytesL_cons (k n : Nat) : bytesL (k + 1) n = UInt8.ofNat (n / 256 ^ k) :: bytesL k n := by
  unfold bytesL
  rw [List.range_succ_eq_map, List.map_cons, List.map_map]
  congr 1
  apply List.map_congr_left
  intro i hi
  simp only [Function.comp]
  congr 3
  omega
/-- a string out of a new block of one byte -/
theorem conv_one (w : World) (z : Int) (c : UInt8) (hz : (c.toNat : Int) = z) : (convert 49 9 (.slice (some ⟨w.heap.size, 0, none⟩) 1 1)).run Try.prog (w.alloc (.cells #[.int .u8 z] 5)) = .ok (.string (str [c])) (w.alloc (.cells #[.int .u8 z] 5)) := by
  refine conv_str _ w.heap.size 0 1 [c] ?_
  intro j hj
  obtain rfl : j = 0 := by simpa using hj
  rw [Nat.zero_add, new_cell0, ← hz]
  rfl
theorem refEight_any (n : Nat) (w : World) (hn : n ≤ 1000000) :
    Calls Try.prog 36 #[.int .i64 n] w fun e w' => e = .returned (.string (str (bytesL 8 n))) ∧ Below w.heap.size w w' := by
  go_enter Try.func36, Try.ntmps36
  go_wp2_with fail
  go_loopw [0, 3, 4] (fun x s i wr => ∃ k : Nat, k ≤ 8 ∧ i = .int .i64 k ∧ x = .int .i64 ((n / 256 ^ k : Nat) : Int) ∧ s = .string (str (bytesL k n)) ∧ Below w.heap.size w wr)
    (fun _ _ i _ => 8 - (intOf i).toNat)
  case atStart => exact ⟨0, by omega, rfl, by simp, rfl, Below.refl _ _⟩
  case round =>
    obtain ⟨k, hk, rfl, rfl, rfl, hb⟩ := hrel
    by_cases hlt : k < 8
    · have hq : n / 256 ^ k ≤ n := Nat.div_le_self _ _
      have hsz : (str (bytesL k n)).size = k := by rw [size_str, length_bytesL]
      have hs1 : (str [UInt8.ofNat (n / 256 ^ k)]).size = 1 := size_str _
      obtain ⟨Q, hQ⟩ : ∃ Q, n / 256 ^ k = Q := ⟨_, rfl⟩
      have hcv := conv_one wr ((Q : Int) % 256) (UInt8.ofNat Q) (by rw [UInt8.toNat_ofNat']; simp)
      rw [hQ] at hq hs1 ⊢
      have HQ := Lib.hid hQ
      clear hQ
      go_wp2_with fail
      go_roundw
      case rel =>
        refine ⟨k + 1, by omega, by go_num, ?_, ?_, hb.alloc hb.size _⟩
        · rw [Nat.pow_succ, ← Nat.div_div_eq_div_mul, HQ.out]; simp
        · rw [str_append, bytesL_cons, HQ.out]; rfl
      case measure => simp [intOf]; omega
    · obtain rfl : k = 8 := by omega
      go_wp2_with fail
      go_ret
      exact ⟨rfl, hb⟩
set_option maxHeartbeats 4000000 in
theorem refHash_any (c : UInt8) (v : Value) (L : List (List UInt8)) (w : World) (hS : Strs w v L) (hs : (flat L).length ≤ 800000) :
    Calls Try.prog 35 #[.string (str [c]), v] w fun e w' => e = .returned (.string (sha (frm c L))) ∧ Below w.heap.size w w' := by
  obtain ⟨ao, cm, rfl, hm⟩ := hS.more
  have hLl := length_flat_len L
  obtain ⟨n, hn⟩ : ∃ n, L.length = n := ⟨_, rfl⟩
  rw [hn] at hLl ⊢
  have hnb : n ≤ 800000 := by omega
  have HN := Lib.hid hn
  clear hn
  have hk1 : (str [c]).size = 1 := size_str _
  have hk2 : (str (bytesL 8 n)).size = 8 := by rw [size_str, length_bytesL]
  go_enter Try.func35, Try.ntmps35
  go_wp2_with (go_at_call 36; refine (refEight_any n _ (by omega)).mono ?_; rintro e w1 ⟨rfl, hb⟩)
  have hm1 := hm.below hb (Nat.le_refl _)
  rw [str_append]
  obtain ⟨hd, hhd⟩ : ∃ hd, [c] ++ bytesL 8 n = hd := ⟨_, rfl⟩
  have hdl : hd.length = 9 := by rw [← hhd]; simp [length_bytesL]
  rw [hhd]
  have HD := Lib.hid hhd
  have HDL := Lib.hid hdl
  clear hk1 hk2 hhd hdl
  go_loopw [5, 6] (fun s i wr => ∃ k : Nat, k ≤ n ∧ i = .int .i64 k ∧ s = .string (str (hd ++ flat (L.take k))) ∧ Below w1.heap.size w1 wr)
    (fun _ i _ => n - (intOf i).toNat)
  case atStart => exact ⟨0, by omega, rfl, by simp [flat], Below.refl _ _⟩
  case round =>
    obtain ⟨k, hk, rfl, rfl, hb'⟩ := hrel
    by_cases hlt : k < n
    · have hkL : k < L.length := by rw [HN.out]; exact hlt
      obtain ⟨b, off, rfl, hc⟩ := (hm1.below hb' (Nat.le_refl _)) k hkL
      have hbr := cell_lt hc
      obtain ⟨m, hmm⟩ : ∃ m, L[k].length = m := ⟨_, rfl⟩
      have hgk := length_flat_get L k hkL
      have hfk := length_flat_take L k
      have hmb : m ≤ 800000 := by omega
      have z1 : (str L[k]).size = m := by rw [size_str, hmm]
      have z2 : (str (bytesL 8 m)).size = 8 := by rw [size_str, length_bytesL]
      have z3 : (str (hd ++ flat (L.take k))).size ≤ 900000 := by rw [size_str, List.length_append]; have := HDL.out; omega
      have HMM := Lib.hid hmm
      have k0 : (0 : Int) ≤ (k : Int) := by omega
      have kn : (k : Int) < (n : Int) := by omega
      have q1 : ¬ (9223372036854775807 < 8 + m) := by omega
      have q2 : ¬ (9223372036854775807 < (str (hd ++ flat (L.take k))).size + (8 + m)) := by omega
      clear hmm hgk hfk
      go_wp2_with fail
      go_region_law ((with_reducible refine step_callf ?_ (.func 36) #[.tmp 23] #[3] ?_ 36 #[.int .i64 (m : Int)] ?_ ?_ ?_ _ (refEight_any m _ (by omega)) ?_); (· rfl); (· rfl); (· rfl); (· simp [Act.eval, Act.put]); (· exact enters_of Try.func36 (by kernel_rfl) rfl); rintro e wI ⟨rfl, hbI⟩; have hcI : wI.cell? ⟨b, off + k, none⟩ = some (.string (str L[k])) := cell_keep (show wr.drew.cell? _ = _ from hc) hbI; refine ⟨_, rfl, ?_⟩)
      all_goals
        have hfe : str (hd ++ flat (L.take k)) ++ (str (bytesL 8 m) ++ str L[k]) = str (hd ++ flat (L.take (k + 1))) := by
          rw [str_append, str_append, flat_take L k hkL, HMM.out, List.append_assoc]
        have HFE := Lib.hid hfe
        have hbN := hb'.drew.trans (hbI.mono hb'.size)
        clear hfe q1 q2 k0 kn
        go_wp2_with fail
        refine ⟨⟨k + 1, by omega, by go_num, congrArg Value.string HFE.out, hbN⟩, by simp [intOf]; omega⟩
    · obtain rfl : k = n := by omega
      rw [List.take_of_length_le (by rw [HN.out]; omega)]
      have hfin : hd ++ flat L = frm c L := by rw [← HD.out, ← HN.out]; simp [frm]
      have hfl := length_frm c L
      have hszf := size_str (frm c L)
      have HSZ : Hid ((str (frm c L)).size ≤ 900000) := by show _ ≤ _; omega
      rw [hfin]
      clear hfl hszf hfin
      go_wp2_with fail
      refine (refSum_any (str (frm c L)) _ HSZ.out).mono ?_
      rw [data_str]
      rintro e w8 ⟨rfl, hb8⟩
      go_wp2_with fail
      go_ret
      exact ⟨rfl, hb.trans ((hb'.mono hb.size).trans (hb8.mono (Nat.le_trans hb.size hb'.size)))⟩

theorem refNew_any (l : List UInt8) (w : World) (hs : l.length ≤ 100000) :
    Calls Try.prog 17 #[.string (str l)] w fun e w' => e = .returned (.string (sha (frm 78 [l]))) ∧ Below w.heap.size w w' := by
  have h2 := Strs.lit w [l] #[.string (str l)] rfl
  go_enter Try.func17, Try.ntmps17
  go_wp2_with fail
  refine (refHash_any 78 _ [l] _ h2 (by rw [flat_one]; simp [length_bytesL]; omega)).mono ?_
  rintro e w1 ⟨rfl, hb⟩
  go_wp2_with fail
  go_ret
  exact ⟨rfl, (blw_alloc _ _).trans (hb.mono (by simp))⟩
theorem refAdd_any (a b c : List UInt8) (w : World) (ha : a.length ≤ 100000) (hb : b.length ≤ 100000) (hc : c.length ≤ 100000) :
    Calls Try.prog 19 #[.string (str a), .string (str b), .string (str c)] w fun e w' => e = .returned (.string (sha (frm 65 [a, b, c]))) ∧ Below w.heap.size w w' := by
  have h2 := Strs.lit w [a, b, c] #[.string (str a), .string (str b), .string (str c)] rfl
  go_enter Try.func19, Try.ntmps19
  go_wp2_with fail
  refine (refHash_any 65 _ [a, b, c] _ h2 (by rw [flat_three]; omega)).mono ?_
  rintro e w1 ⟨rfl, hb⟩
  go_wp2_with fail
  go_ret
  exact ⟨rfl, (blw_alloc _ _).trans (hb.mono (by simp))⟩
theorem owns_lit (w : World) (L : List (List UInt8)) (cs : Array Value) (h : cs = (svals L).toArray) (hL : L.length ≤ 1000) : (w.alloc (.cells cs 9)).ownsRow w.heap.size 9 1 (.slice (some ⟨w.heap.size, 0, none⟩) L.length L.length) L.length (svals L) := by
  subst h
  refine ⟨by simp [svals], .inr ⟨w.heap.size, L.length, _, rfl, Nat.le_refl _, heap_alloc_new w _, Nat.le_refl _, by unfold maxLen; omega, by simp [svals], ?_⟩⟩
  simp only [Nat.mul_one]
  exact List.take_of_length_le (by simp [svals])
theorem one_new' (w : World) (z : ByteArray) (s : List UInt8) (t : TypeId) (h : z = str s) : ∀ j u, (svals [s])[j]? = some u → (w.alloc (.cells #[.string z] t)).cell? ((⟨w.heap.size, 0, none⟩ : Addr).add j) = some u := by
  subst h; exact one_new w s t
set_option maxHeartbeats 2000000 in
theorem refNats_any (a b : List UInt8) (ao : Option Addr) (cm : Nat) (L : List (List UInt8)) (w : World) (hm : MoreS w ao L) (hs : (flat ([a, b] ++ L)).length ≤ 800000) :
    Calls Try.prog 21 #[.string (str a), .string (str b), .slice ao L.length cm] w fun e w' => e = .returned (.string (sha (frm 76 ([a, b] ++ L)))) ∧ Below w.heap.size w w' := by
  obtain ⟨i0, hi, hy0, hy1, hy2⟩ := info_parts info_string
  have hLl := length_flat_len ([a, b] ++ L)
  rw [List.length_append] at hLl
  obtain ⟨n, hn⟩ : ∃ n, L.length = n := ⟨_, rfl⟩
  rw [hn] at hLl ⊢
  have hnb : n ≤ 800000 := by omega
  have HN := Lib.hid hn
  clear hn
  have ho := owns_lit w [a, b] #[.string (str a), .string (str b)] rfl (by simp)
  have hb0 := blw_alloc w (.cells #[.string (str a), .string (str b)] 9)
  go_enter Try.func21, Try.ntmps21
  go_wp2_with fail
  go_loopw [7, 8] (fun v i wr => ∃ k : Nat, k ≤ n ∧ i = .int .i64 k ∧ Hid (wr.ownsRow w.heap.size 9 1 v (2 + k) (svals ([a, b] ++ L.take k))) ∧ Below w.heap.size w wr)
    (fun _ i _ => n - (intOf i).toNat)
  case atStart => exact ⟨0, by omega, rfl, by rw [List.take_zero, List.append_nil]; exact ho, hb0⟩
  case round =>
    clear ho hb0
    obtain ⟨k, hk, rfl, hO, hb⟩ := hrel
    by_cases hlt : k < n
    · have hkL : k < L.length := by rw [HN.out]; exact hlt
      obtain ⟨bb, off, rfl, hc⟩ := (hm.below hb (Nat.le_refl _)) k hkL
      have hsz := hb.size
      go_wp2_with (at_builtin; refine wpList_append_own _ rfl (.tmp 18) (.tmp 23) 47 rfl w.heap.size 9 i0 (.string ⟨#[]⟩) 1 16 Try.underlying47 hi hy0 hy1 hy2 rfl (by decide) u7 (2 + k) (svals ([a, b] ++ L.take k)) rfl (hO.out.alloc _) ⟨wr.heap.size, 0, none⟩ 1 1 (svals [L[k]]) rfl rfl (one_new _ _ _) (svals_one _) (by unfold maxLen; omega) (by omega) (by simp; omega) ?_; intro v' w4 hO4 hG4 _)
      have hO5 : Hid (w4.ownsRow w.heap.size 9 1 v' (2 + (k + 1)) (svals ([a, b] ++ L.take (k + 1)))) := by
        show World.ownsRow _ _ _ _ _ _ _
        rw [List.take_succ_eq_append_getElem hkL, ← List.append_assoc, svals_append]
        exact hO4
      have hb4 := (hb.alloc hsz (.cells #[.string (str L[k])] 9)).grown hG4 (by simp; omega) (fun q e => (hO.out.lt q e).1)
      exact ⟨⟨k + 1, by omega, by go_num, hO5, hb4⟩, by simp [intOf]; omega⟩
    · obtain rfl : k = n := by omega
      rw [List.take_of_length_le (by rw [HN.out]; omega)] at hO
      have hS := Strs.of_owns (L := [a, b] ++ L) (v := u7) (w := wr) (B := w.heap.size) (by rw [List.length_append, HN.out]; exact hO.out)
      go_wp2_with fail
      refine (refHash_any 76 _ _ _ hS hs).mono ?_
      rintro e w1 ⟨rfl, hb2⟩
      go_wp2_with fail
      go_ret
      exact ⟨rfl, hb.trans (hb2.mono hb.size)⟩
set_option maxHeartbeats 2000000 in
theorem refInts_any (a b : List UInt8) (ao : Option Addr) (cm : Nat) (IL : List (Bool × List UInt8)) (w : World) (hm : MoreI w ao IL) (hs : (flat ([a, b] ++ IL.map itx)).length ≤ 800000) :
    Calls Try.prog 25 #[.string (str a), .string (str b), .slice ao IL.length cm] w fun e w' => e = .returned (.string (sha (frm 73 ([a, b] ++ IL.map itx)))) ∧ Below w.heap.size w w' := by
  obtain ⟨i0, hi, hy0, hy1, hy2⟩ := info_parts info_string
  have hLl := length_flat_len ([a, b] ++ IL.map itx)
  rw [List.length_append, List.length_map] at hLl
  obtain ⟨n, hn⟩ : ∃ n, IL.length = n := ⟨_, rfl⟩
  rw [hn] at hLl ⊢
  have hnb : n ≤ 800000 := by omega
  have HN := Lib.hid hn
  clear hn
  have ho := owns_lit w [a, b] #[.string (str a), .string (str b)] rfl (by simp)
  have hb0 := blw_alloc w (.cells #[.string (str a), .string (str b)] 9)
  go_enter Try.func25, Try.ntmps25
  go_wp2_with fail
  go_loopw [7, 8] (fun v i wr => ∃ k : Nat, k ≤ n ∧ i = .int .i64 k ∧ Hid (wr.ownsRow w.heap.size 9 1 v (2 + k) (svals ([a, b] ++ (IL.take k).map itx))) ∧ Below w.heap.size w wr)
    (fun _ i _ => n - (intOf i).toNat)
  case atStart => exact ⟨0, by omega, rfl, by rw [List.take_zero]; exact ho, hb0⟩
  case round =>
    clear ho hb0
    obtain ⟨k, hk, rfl, hO, hb⟩ := hrel
    by_cases hlt : k < n
    · have hkL : k < IL.length := by rw [HN.out]; exact hlt
      obtain ⟨bb, off, rfl, hc0, hc1⟩ := (hm.below hb (Nat.le_refl _)) k hkL
      have hsz := hb.size
      have hPL : Hid (IL[k].2.length ≤ 1000000) := by
        have h1 : k < (IL.map itx).length := by simpa using hkL
        have := length_flat_get ([a, b] ++ IL.map itx) (2 + k) (by simp; omega)
        rw [List.getElem_append_right (by simp)] at this
        simp only [List.length_cons, List.length_nil, Nat.add_sub_cancel_left, List.getElem_map, itx] at this
        show _ ≤ _
        omega
      have hzz : (str IL[k].2).size ≤ 1000000 := by rw [size_str]; exact hPL.out
      obtain ⟨sg, hsg⟩ : ∃ sg, IL[k].1 = sg := ⟨_, rfl⟩
      rw [hsg] at hc0
      have HSG := Lib.hid hsg
      clear hsg
      have fin : ∀ (v' : Value) (w4 : World) (z : Value), w4.ownsRow w.heap.size 9 1 v' (2 + k + 1) (svals ([a, b] ++ (IL.take k).map itx) ++ svals [itx IL[k]]) → (wr.alloc (.cells #[z] 9)).grownBy w4 u7.ownBlock → Hid (w4.ownsRow w.heap.size 9 1 v' (2 + (k + 1)) (svals ([a, b] ++ (IL.take (k + 1)).map itx))) ∧ Below w.heap.size w w4 := by
        intro v' w4 z hO4 hG4
        refine ⟨?_, (hb.alloc hsz (.cells #[z] 9)).grown hG4 (by simp; omega) (fun q e => (hO.out.lt q e).1)⟩
        show World.ownsRow _ _ _ _ _ _ _
        rw [List.take_succ_eq_append_getElem hkL, List.map_append, ← List.append_assoc, svals_append]
        exact hO4
      have FIN := Lib.hid fin
      clear fin
      cases sg
      · have he : (⟨#[43]⟩ : ByteArray) ++ str IL[k].2 = str (itx IL[k]) := by
          rw [show itx IL[k] = 43 :: IL[k].2 from by unfold itx; rw [HSG.out]; rfl]; exact str_append [43] _
        have HE := Lib.hid he
        clear he
        go_wp2_with (at_builtin; refine wpList_append_own _ rfl (.tmp 24) (.tmp 32) 47 rfl w.heap.size 9 i0 (.string ⟨#[]⟩) 1 16 Try.underlying47 hi hy0 hy1 hy2 rfl (by decide) u7 (2 + k) (svals ([a, b] ++ (IL.take k).map itx)) rfl (hO.out.alloc _) ⟨wr.heap.size, 0, none⟩ 1 1 (svals [itx IL[k]]) rfl rfl (one_new' _ _ _ _ HE.out) (svals_one _) (by unfold maxLen; omega) (by omega) (by simp; omega) ?_; intro v' w4 hO4 hG4 _)
        exact ⟨⟨k + 1, by omega, by go_num, (FIN.out v' w4 _ hO4 hG4).1, (FIN.out v' w4 _ hO4 hG4).2⟩, by simp [intOf]; omega⟩
      · have he : (⟨#[45]⟩ : ByteArray) ++ str IL[k].2 = str (itx IL[k]) := by
          rw [show itx IL[k] = 45 :: IL[k].2 from by unfold itx; rw [HSG.out]; rfl]; exact str_append [45] _
        have HE := Lib.hid he
        clear he
        go_wp2_with (at_builtin; refine wpList_append_own _ rfl (.tmp 24) (.tmp 32) 47 rfl w.heap.size 9 i0 (.string ⟨#[]⟩) 1 16 Try.underlying47 hi hy0 hy1 hy2 rfl (by decide) u7 (2 + k) (svals ([a, b] ++ (IL.take k).map itx)) rfl (hO.out.alloc _) ⟨wr.heap.size, 0, none⟩ 1 1 (svals [itx IL[k]]) rfl rfl (one_new' _ _ _ _ HE.out) (svals_one _) (by unfold maxLen; omega) (by omega) (by simp; omega) ?_; intro v' w4 hO4 hG4 _)
        exact ⟨⟨k + 1, by omega, by go_num, (FIN.out v' w4 _ hO4 hG4).1, (FIN.out v' w4 _ hO4 hG4).2⟩, by simp [intOf]; omega⟩
    · obtain rfl : k = n := by omega
      rw [List.take_of_length_le (by rw [HN.out]; omega)] at hO
      have hS := Strs.of_owns (L := [a, b] ++ IL.map itx) (v := u7) (w := wr) (B := w.heap.size) (by rw [List.length_append, List.length_map, HN.out]; exact hO.out)
      go_wp2_with fail
      refine (refHash_any 73 _ _ _ hS hs).mono ?_
      rintro e w1 ⟨rfl, hb2⟩
      go_wp2_with fail
      go_ret
      exact ⟨rfl, hb.trans (hb2.mono hb.size)⟩
end Go.Proofs.Ytdiiggmcdpiahaa
