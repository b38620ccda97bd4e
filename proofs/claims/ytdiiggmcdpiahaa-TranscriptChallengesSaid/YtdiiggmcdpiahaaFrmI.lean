/- transcript.framed at integers. -/
import Derived.Test.YtdiiggmcdpiahaaFrm
namespace Go.Proofs.Ytdiiggmcdpiahaa
open Go.RowKit Num
open Go.Lib (byteCells byteCells_length byteCells_append)
set_option maxRecDepth 20000

/-- the text of an integer in a frame -/
def itx (p : Bool × List UInt8) : List UInt8 := (if p.1 then 45 else 43) :: p.2
/-- the integers that are handed over: each in two cells -/
def MoreI (w : World) (ao : Option Addr) (L : List (Bool × List UInt8)) : Prop := ∀ k (h : k < L.length), ∃ b off, ao = some ⟨b, off, none⟩ ∧ w.cell? ⟨b, off + k * 2, none⟩ = some (.bool L[k].1) ∧ w.cell? ⟨b, off + k * 2 + 1, none⟩ = some (.string (str L[k].2))
theorem cell_lt {w : World} {b o : Nat} {v : Value} (h : w.cell? ⟨b, o, none⟩ = some v) : b < w.heap.size := by
  unfold World.cell? at h
  rcases Nat.lt_or_ge b w.heap.size with h' | h'
  · exact h'
  · simp [Array.getElem?_eq_none h'] at h
theorem cell_keep {w w' : World} {a : Addr} {v : Value} (h : w.cell? a = some v) (hb : Below w.heap.size w w') : w'.cell? a = some v := by
  have hlt : a.block < w.heap.size := by
    unfold World.cell? at h
    rcases Nat.lt_or_ge a.block w.heap.size with h' | h'
    · exact h'
    · simp [Array.getElem?_eq_none h'] at h
  rw [hb.cell hlt]; exact h
theorem blw_alloc (w : World) (o : Obj) : Below w.heap.size w (w.alloc o) := (Below.refl _ _).alloc (Nat.le_refl _) _
theorem MoreI.below {w w' : World} {ao : Option Addr} {L : List (Bool × List UInt8)} {B : Nat} (h : MoreI w ao L) (hb : Below B w w') (hB : w.heap.size ≤ B) : MoreI w' ao L := by
  intro k hk
  obtain ⟨b, off, h1, h2, h3⟩ := h k hk
  have hlt := cell_lt h2
  exact ⟨b, off, h1, by rw [hb.cell (p := ⟨b, off + k * 2, none⟩) (by show b < B; omega)]; exact h2, by rw [hb.cell (p := ⟨b, off + k * 2 + 1, none⟩) (by show b < B; omega)]; exact h3⟩
theorem intsText_any (p : Bool × List UInt8) (w : World) (hp : p.2.length ≤ 1000000) : Calls Try.prog 44 #[.agg #[.bool p.1, .string (str p.2)]] w fun e w' => e = .returned (.string (str (itx p))) ∧ Below w.heap.size w w' := by
  obtain ⟨s, l⟩ := p
  have hsz : (str l).size ≤ 1000000 := by rw [size_str]; exact hp
  have h1 : (⟨#[45]⟩ : ByteArray) ++ str l = str (45 :: l) := str_append [45] l
  have h2 : (⟨#[43]⟩ : ByteArray) ++ str l = str (43 :: l) := str_append [43] l
  have H1 := Lib.hid h1
  have H2 := Lib.hid h2
  clear h1 h2
  cases s
  · show Calls Try.prog 44 #[.agg #[.bool false, .string (str l)]] w fun e w' => e = .returned (.string (str (43 :: l))) ∧ Below w.heap.size w w'
    go_enter Try.func44, Try.ntmps44
    go_wp2_with fail
    go_ret
    exact ⟨ret_str H2.out, blw_alloc _ _⟩
  · show Calls Try.prog 44 #[.agg #[.bool true, .string (str l)]] w fun e w' => e = .returned (.string (str (45 :: l))) ∧ Below w.heap.size w w'
    go_enter Try.func44, Try.ntmps44
    go_wp2_with fail
    go_ret
    exact ⟨ret_str H1.out, blw_alloc _ _⟩
set_option maxHeartbeats 8000000 in
theorem framedI_any (c : UInt8) (z : Int) (v0 : Value) (ao : Option Addr) (cm : Nat) (L0 : List (List UInt8)) (IL : List (Bool × List UInt8)) (w : World) (hz : (c.toNat : Int) = z) (h0 : Strs w v0 L0) (hm : MoreI w ao IL) (hs : (flat (L0 ++ IL.map itx)).length ≤ 800000) :
    Calls Try.prog 43 #[.int .u8 z, v0, .slice ao IL.length cm, .func (.func 44) #[] #[]] w fun e w' => e = .returned (.string (sha (frm c (L0 ++ IL.map itx)))) ∧ Below w.heap.size w w' := by
  obtain ⟨L, hLI⟩ : ∃ L, IL.map itx = L := ⟨_, rfl⟩
  have hlI : IL.length = L.length := by rw [← hLI, List.length_map]
  rw [hLI] at hs ⊢
  rw [hlI]
  have HLI := Lib.hid hLI
  have HLL := Lib.hid hlI
  clear hLI hlI
  obtain ⟨i0, hi, hy0, hy1, hy2⟩ := info_parts info_string
  have HZ := Lib.hid hz
  clear hz
  obtain ⟨a0, c0, rfl⟩ : ∃ ao cm, v0 = .slice ao L0.length cm := by
    rcases h0 with ⟨rfl, rfl⟩ | ⟨g, c, _, _, h, _⟩
    · exact ⟨none, 0, rfl⟩
    · exact ⟨_, _, h⟩
  have hLl := length_flat_len (L0 ++ L)
  rw [List.length_append] at hLl
  go_enter Try.func43, Try.ntmps43
  go_wp2_with fail
  refine (WriteByte_any _ bt_frame w.heap.size [] _ _ _ HZ.out (Bld.new _ w) (by simp)).mono ?_
  rintro e w1 ⟨rfl, hB1, hb1, _⟩
  rw [List.nil_append] at hB1
  have q1 := hB1.lt
  go_wp2_with fail
  refine (eight_int w.heap.size [c] _ (L0 ++ L).length _ (by rw [List.length_append]; omega) hB1 (by simp)).mono ?_
  rintro e w2 ⟨rfl, hB2, hb2, _⟩
  have q2 := hB2.lt
  have hbA := ((Below.refl w.heap.size w).alloc (Nat.le_refl _) _).trans (hb1.trans hb2)
  have hm2 := hm.below hbA (Nat.le_refl _)
  have h02 := h0.below hbA (Nat.le_refl _)
  clear hb1 hb2 hB1 h0 hm
  obtain ⟨hd, hhd⟩ : ∃ hd, [c] ++ bytesL 8 (L0 ++ L).length = hd := ⟨_, rfl⟩
  rw [hhd] at hB2
  have HD := Lib.hid hhd
  clear hhd
  have i1 : ((L0.length : Int) + L.length ≤ 800000) := by omega
  go_wp2_with fail
  go_loopw [1, 25] (fun v x wr => ∃ k : Nat, k ≤ L.length ∧ x = .int .i64 k ∧ Hid (Strs wr v (L0 ++ L.take k)) ∧ Bld 54 wr w.heap.size hd ∧ Below w2.heap.size w2 wr)
    (fun _ x _ => L.length - (intOf x).toNat)
  case atStart => exact ⟨0, by omega, rfl, by rw [List.take_zero, List.append_nil]; exact h02, hB2, Below.refl _ _⟩
  case round =>
    clear h02 hB2
    obtain ⟨k, hk, rfl, hS, hB, hb⟩ := hrel
    have hsz := hb.size
    by_cases hlt : k < L.length
    · have hltI : k < IL.length := by rw [HLL.out]; exact hlt
      obtain ⟨b, off, rfl, hc0, hc1⟩ := (hm2.below hb (Nat.le_refl _)) k hltI
      have hbr : b < wr.heap.size := cell_lt hc0
      have hLk : L[k] = itx IL[k] := by simp [← HLI.out]
      have HPL : Hid (IL[k].2.length ≤ 1000000) := by
        have h1 : k < L.length := hlt
        have := length_flat_get (L0 ++ L) (L0.length + k) (by simp; exact h1)
        simp only [List.getElem_append_right (Nat.le_add_right _ _), Nat.add_sub_cancel_left] at this
        rw [hLk] at this
        simp only [itx, List.length_cons] at this
        show _ ≤ _
        omega
      have HLK := Lib.hid hLk
      clear hLk
      obtain ⟨n, hn⟩ : ∃ n, (L0 ++ L.take k).length = n := ⟨_, rfl⟩
      have hnb : n ≤ 800000 := by rw [List.length_append, List.length_take] at hn; omega
      obtain ⟨av, cv, rfl, hnone, hcap, hcells⟩ := hS.out.open' n hn
      go_wp2_with fail
      have HC := hcells
      have HN : Hid ((svals (L0 ++ L.take k)).length = n * 1) := by show _ = _; rw [Nat.mul_one, ← hn]; simp [svals]
      have hnone' := Lib.hid (fun h => ⟨(hnone h).1, (hnone h).1⟩ : av = none → n = 0 ∧ n = 0)
      clear hnone hcells
      have HNN := Lib.hid hn
      clear hn
      go_region_law (first
        | ((with_reducible refine step_callf ?a1 (.tmp 35) #[.tmp 36] #[43] ?a2 44 #[.agg #[.bool IL[k].1, .string (str IL[k].2)]] ?a3 ?a4 ?a5 ?a8 ?a6 ?a7); (case a1 => rfl); (case a2 => rfl); (case a3 => simp [Act.eval]); (case a4 => simp [Act.eval]); (case a5 => exact enters_of Try.func44 (by kernel_rfl) rfl); (case a6 => exact intsText_any IL[k] _ HPL.out); rintro e wI ⟨rfl, hbI⟩; refine ⟨_, rfl, ?_⟩)
        | ((with_reducible refine step_append_grows ?b1 (.tmp 34) (.tmp 38) 47 ?b2 9 i0 (.string ⟨#[]⟩) 1 16 Try.underlying47 hi hy0 hy1 hy2 ?b3 ?b4 av n n (svals (L0 ++ L.take k)) ?b5 hnone'.out HN.out ?b6 ⟨wI.heap.size, 0, none⟩ 1 1 (svals [itx IL[k]]) ?b7 ?b8 ?b9 (svals_one _) ?c1 ?c2 ?c3 ?c4); (case b1 => rfl); (case b2 => rfl); (case b3 => rfl); (case b4 => decide); (case b5 => simp [Act.eval]); (case b6 => exact fun q hq j u hu => cell_keep (cell_keep (cell_keep (HC.out q hq j u hu) (blw_alloc wr _).drew) hbI) (blw_alloc wI _)); (case b7 => simp [Act.eval]); (case b8 => rfl); (case b9 => exact one_new _ _ _); (case c1 => omega); (case c2 => unfold maxLen; omega); (case c3 => omega); intro v' w4 hO4 hG4))
      have sI := hbI.size
      simp only [World.size_alloc, World.size_drew] at sI
      have hbG : Below wr.heap.size wr w4 := ((((blw_alloc wr _).drew.trans (hbI.mono (by simp))).trans ((blw_alloc wI _).mono (by omega)))).grown hG4 (by simp; omega) (fun q e => by cases e)
      rw [← HLK.out] at hO4
      have hS4 : Strs w4 v' (L0 ++ L.take (k + 1)) := by
        rw [List.take_succ_eq_append_getElem hlt, ← List.append_assoc]
        refine Strs.of_owns (B := ?_) ?_
        rotate_left
        · rw [svals_append, List.length_append, HNN.out]
          exact hO4
      have hB4 := hB.below hbG (Nat.le_refl _)
      have hb4 := hb.trans (hbG.mono hsz)
      obtain ⟨av', cv', rfl⟩ : ∃ av cv, v' = .slice av (n + 1) cv := by
        rcases hO4.2 with ⟨_, h⟩ | ⟨g, cap, cur, hv, _⟩
        · omega
        · exact ⟨_, _, hv⟩
      clear hO4 hG4 HC HN hnone' hbG
      go_wp2_with fail
      exact ⟨⟨k + 1, by omega, by go_num, hS4, hB4, hb4⟩, by simp [intOf]; omega⟩
    · obtain rfl : k = L.length := by omega
      rw [List.take_of_length_le (Nat.le_refl _)] at hS
      clear hlt hk hm2
      obtain ⟨M, hM⟩ : ∃ M, L0 ++ L = M := ⟨_, rfl⟩
      rw [hM] at hS hs
      have HM := Lib.hid hM
      clear hM
      have hbW := hbA.trans (hb.mono (Nat.le_of_lt q2))
      obtain ⟨wo, rfl⟩ : ∃ wo : World, wo = wr := ⟨_, rfl⟩
      have hMl := length_flat_len M
      rcases hS.out with ⟨hM0, rfl⟩ | ⟨gl, cl, cur, fr, rfl, hcl, hblk, hcur⟩
      · have hfin : hd = frm c M := by rw [← HD.out, HM.out, hM0]; simp [frm, flat]
        rw [hfin] at hB
        have hne : frm c M ≠ [] := by simp [frm]
        have hszf := size_str (frm c M)
        have hfl := length_frm c M
        have HSZ : Hid ((str (frm c M)).size ≤ 900000) := by show _ ≤ _; omega
        clear hfin hM0 hszf hfl hS hMl
        go_wp2_with fail
        go_loopw [43] (fun x wr => x = .int .i64 0 ∧ wr = wo) (fun x _ => 0)
        case atStart => exact ⟨rfl, rfl⟩
        case round =>
          obtain ⟨rfl, rfl⟩ := hrel
          go_wp2_with fail
          refine (String_any _ _ _ _ hB hne).mono ?_
          rintro e w7 ⟨rfl, hb7⟩
          go_wp2_with fail
          refine (Sum_any (str (frm c M)) _ HSZ.out).mono ?_
          rw [data_str]
          rintro e w8 ⟨rfl, hb8⟩
          go_wp2_with fail
          go_ret
          exact ⟨ret_str (by rw [HM.out]), hbW.trans (hb7.trans (hb8.mono (by have := hb7.size; have := hbW.size; omega)))⟩
      · obtain ⟨n, hn⟩ : ∃ n, M.length = n := ⟨_, rfl⟩
        have hgb : gl ≠ w.heap.size := by
          rintro rfl
          rcases hB with ⟨_, h, _⟩ | ⟨_, h, _⟩ <;> (rw [hblk] at h; injection h with h; injection h with _ h; revert h; decide)
        have hbnd : n ≤ 800000 := by omega
        rw [hn]
        have HN := Lib.hid hn
        clear hn
        go_wp2_with fail
        go_loopw [43] (fun x wr => ∃ k : Nat, k ≤ n ∧ x = .int .i64 k ∧ Bld 54 wr w.heap.size (hd ++ flat (M.take k)) ∧ Below w.heap.size wo wr ∧ Oth w.heap.size wo wr)
          (fun x _ => n - (intOf x).toNat)
        case atStart => exact ⟨0, by omega, rfl, by simpa [flat] using hB, Below.refl _ _, Oth.refl _ _⟩
        case round =>
          clear hB
          obtain ⟨k, hk, rfl, hB, hb', ho'⟩ := hrel
          by_cases hlt : k < n
          · have hkM : k < M.length := by rw [HN.out]; exact hlt
            have hc : wr.cell? ⟨gl, k, none⟩ = some (.string (str M[k])) := by
              rw [Lib.cell_of_heap (ho' gl _ _ _ hgb (by decide) hblk)]; exact hcur k hkM
            have hsz := size_str M[k]
            have hfk := length_flat_take M k
            have hgk := length_flat_get M k hkM
            have hdl : hd.length = 9 := by rw [← HD.out]; simp [length_bytesL]
            go_wp2_with fail
            refine (eight_int w.heap.size _ _ M[k].length _ rfl hB (by rw [List.length_append]; omega)).mono ?_
            rintro e w5 ⟨rfl, hB5, hb5, ho5⟩
            go_wp2_with fail
            refine (WriteString_any _ bt_frame w.heap.size _ M[k] _ hB5 (by simp only [List.length_append, length_bytesL]; omega) (by omega)).mono ?_
            rintro e w6 ⟨rfl, hB6, hb6, ho6⟩
            go_wp2_with fail
            refine ⟨⟨k + 1, by omega, by go_num, ?_, hb'.trans (hb5.trans hb6), ho'.trans (ho5.trans ho6)⟩, by simp [intOf]; omega⟩
            rw [flat_take M k hkM, ← List.append_assoc, ← List.append_assoc]
            exact hB6
          · obtain rfl : k = n := by omega
            rw [List.take_of_length_le (by rw [HN.out]; omega)] at hB
            have hfin : hd ++ flat M = frm c M := by rw [← HD.out, ← HM.out]; simp [frm]
            rw [hfin] at hB
            have hne : frm c M ≠ [] := by simp [frm]
            have hfl := length_frm c M
            have hszf := size_str (frm c M)
            have HSZ : Hid ((str (frm c M)).size ≤ 900000) := by show _ ≤ _; omega
            clear hszf hfl hfin hMl
            go_wp2_with fail
            refine (String_any _ _ _ _ hB hne).mono ?_
            rintro e w7 ⟨rfl, hb7⟩
            go_wp2_with fail
            refine (Sum_any (str (frm c M)) _ HSZ.out).mono ?_
            rw [data_str]
            rintro e w8 ⟨rfl, hb8⟩
            go_wp2_with fail
            go_ret
            exact ⟨ret_str (by rw [HM.out]), hbW.trans (hb'.trans (hb7.trans (hb8.mono (by have := hb'.size; have := hb7.size; have := hbW.size; omega))))⟩
end Go.Proofs.Ytdiiggmcdpiahaa
