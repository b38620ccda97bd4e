import Derived.Test.YtjminjliomffaaaGreatDoorCeU
import Derived.StillTailTactics
/- The reference of layer 7: find, different, part, works. -/
namespace Go.Proofs.YtjminjliomffaaaGreatDoor.Num
/-- a list without repetitions -/
def dedF : List Nat → List Nat → List Nat
  | acc, [] => acc
  | acc, x :: xs => if acc.contains x then dedF acc xs else dedF (acc ++ [x]) xs
/-- part of the reference -/
def rpF : List Nat → Nat → Nat → Nat × Bool
  | [], _, o => (o, true)
  | f :: fs, r, o => if r % f = 0 then rpF fs (strip 1024 f r o).1 (strip 1024 f r o).2 else (o, false)
theorem dedF_mem : ∀ (l acc : List Nat) (x : Nat), x ∈ dedF acc l ↔ x ∈ acc ∨ x ∈ l
  | [], acc, x => by simp [dedF]
  | y :: l, acc, x => by
    unfold dedF
    split
    · next h =>
      rw [dedF_mem l acc x]
      have hy : y ∈ acc := by simpa using h
      constructor
      · rintro (h | h)
        · exact .inl h
        · exact .inr (List.mem_cons_of_mem _ h)
      · rintro (h | h)
        · exact .inl h
        · rcases List.mem_cons.1 h with rfl | h
          · exact .inl hy
          · exact .inr h
    · next h =>
      rw [dedF_mem l (acc ++ [y]) x]
      rw [List.mem_append, List.mem_singleton, List.mem_cons]
      exact or_assoc
theorem dedF_nodup : ∀ (l acc : List Nat), acc.Nodup → (dedF acc l).Nodup
  | [], acc, h => by simpa [dedF] using h
  | y :: l, acc, h => by
    unfold dedF
    split
    · exact dedF_nodup l acc h
    · next hy =>
      refine dedF_nodup l _ ?_
      rw [List.nodup_append]
      refine ⟨h, by simp, ?_⟩
      intro a ha b hb
      simp only [List.mem_singleton] at hb
      subst hb
      intro e
      subst e
      exact hy (by simpa using ha)
theorem dedF_len : ∀ (l acc : List Nat), (dedF acc l).length ≤ acc.length + l.length
  | [], acc => by simp [dedF]
  | y :: l, acc => by
    unfold dedF
    split
    · have := dedF_len l acc; simp only [List.length_cons]; omega
    · have := dedF_len l (acc ++ [y]); simp only [List.length_append, List.length_cons, List.length_nil] at this ⊢; omega
theorem dedF_step {l : List Nat} {k : Nat} {acc : List Nat} (hk : k < l.length) : dedF acc (l.drop k) = if acc.contains l[k] then dedF acc (l.drop (k + 1)) else dedF (acc ++ [l[k]]) (l.drop (k + 1)) := by
  rw [List.drop_eq_getElem_cons hk, dedF]
end Num
open Go.RowKit Num
set_option maxRecDepth 20000
set_option linter.unusedVariables false
set_option exponentiation.threshold 3000
set_option maxHeartbeats 1000000 in
theorem r7find_any (v : Value) (Q : List Nat) (x : Nat) (C : Bool) (w : World) (hv : SL w v (Q.map enc)) (hL : Q.length ≤ 1000000) (hC : Q.contains x = C) :
    Calls Tryz.prog 64 #[v, .string (enc x)] w fun e w' => (∃ z : Int, e = .returned (.int .i64 z) ∧ decide (z < 0) = !C) ∧ w' = w := by
  obtain ⟨ao, c, rfl, H⟩ := hv.form
  have hlen : (Q.map enc).length = Q.length := by simp
  obtain ⟨N, hN⟩ : ∃ N, Q.length = N := ⟨_, rfl⟩
  rw [hlen, hN]
  rw [hN] at hL
  have H2 := Lib.hid (fun k (hk : k < Q.length) => by have := H.out k (by simpa using hk); rw [map_enc_at hk] at this; exact this : ∀ k (hk : k < Q.length), ∃ b, ao = some ⟨b, 0, none⟩ ∧ b < w.heap.size ∧ w.cell? ⟨b, k, none⟩ = some (.string (enc Q[k])))
  have HN := Lib.hid hN
  replace hC := Lib.hid hC
  clear hv H hlen hN
  go_enter Tryz.func64, Tryz.ntmps64
  go_wp2_with fail
  go_loop [5] (fun i => ∃ k : Nat, k ≤ N ∧ i = .int .i64 k ∧ Hid (x ∉ Q.take k)) (fun i => N - (intOf i).toNat)
  case atStart => exact ⟨0, by omega, rfl, Lib.hid (by simp)⟩
  case round =>
    obtain ⟨k, hk, rfl, hX⟩ := hrel
    by_cases hlt : k < N
    · have hkQ : k < Q.length := by rw [HN.out]; exact hlt
      obtain ⟨b, rfl, hb, hc⟩ := H2.out k hkQ
      by_cases hq : Q[k] = x
      · have hcon : Q.contains x = true := by simp; rw [← hq]; exact List.getElem_mem hkQ
        rw [hq] at hc
        obtain rfl : C = true := by rw [← hC.out]; exact hcon
        have e1 := enc_same x
        clear hkQ hq hcon hX
        go_wp2_with fail
        go_ret
        exact ⟨⟨_, rfl, by first | omega | simp⟩, rfl⟩
      · have hX2 : x ∉ Q.take (k + 1) := by
          rw [List.take_succ_eq_append_getElem hkQ]
          simp only [List.mem_append, List.mem_singleton]
          rintro (h | h)
          · exact hX.out h
          · exact hq h.symm
        have HX2 := Lib.hid hX2
        obtain ⟨t1, t2⟩ := enc_diff (a := Q[k]) (b := x) hq
        generalize Q[k] = q at hc t1 t2
        clear hkQ hq hX2 hX
        go_wp2_with fail
        exact ⟨⟨k + 1, by omega, by go_num, HX2⟩, by simp [intOf]; omega⟩
    · obtain rfl : k = N := by omega
      have hcon : Q.contains x = false := by
        have := hX.out
        rw [List.take_of_length_le (by rw [HN.out]; omega)] at this
        simpa using this
      obtain rfl : C = false := by rw [← hC.out]; exact hcon
      clear hcon hX
      go_wp2_with fail
      go_ret
      exact ⟨⟨_, rfl, by first | omega | simp⟩, rfl⟩
set_option maxHeartbeats 2000000 in
theorem r7different_any (v : Value) (Q : List Nat) (w : World) (hv : SL w v (Q.map enc)) (hL : Q.length ≤ 100000) :
    Calls Tryz.prog 37 #[v] w fun e w' => (∃ v', e = .returned v' ∧ SL w' v' ((dedF [] Q).map enc)) ∧ Below w.heap.size w w' := by
  obtain ⟨i0, hi, hz0, hz1, hz2⟩ := info_parts info_natC
  obtain ⟨ao, c, rfl, H⟩ := hv.form
  have hlen : (Q.map enc).length = Q.length := by simp
  obtain ⟨N, hN⟩ : ∃ N, Q.length = N := ⟨_, rfl⟩
  rw [hlen, hN]
  rw [hN] at hL
  have H2 := Lib.hid (fun k (hk : k < Q.length) => by have := H.out k (by simpa using hk); rw [map_enc_at hk] at this; exact this : ∀ k (hk : k < Q.length), ∃ b, ao = some ⟨b, 0, none⟩ ∧ b < w.heap.size ∧ w.cell? ⟨b, k, none⟩ = some (.string (enc Q[k])))
  have HN := Lib.hid hN
  have hD : Hid (dedF [] (Q.drop 0) = dedF [] Q) := Lib.hid (by simp)
  obtain ⟨D, hDD⟩ : ∃ D, dedF [] Q = D := ⟨_, rfl⟩
  rw [hDD] at hD ⊢
  clear hv H hlen hN hDD
  go_enter Tryz.func37, Tryz.ntmps37
  go_wp2_with fail
  go_loopw [3, 4] (fun v3 i wr => ∃ (k : Nat) (A : List Nat), k ≤ N ∧ A.length ≤ k ∧ i = .int .i64 k ∧ wr.ownsRow w.heap.size 30 1 v3 A.length (A.map fun q => Value.string (enc q)) ∧ Hid (dedF A (Q.drop k) = D) ∧ Below w.heap.size w wr) (fun _ i _ => N - (intOf i).toNat)
  case atStart => exact ⟨0, [], by omega, by simp, rfl, World.ownsRow_nil _ _ _ _, hD, Below.refl _ w⟩
  case round =>
    clear hD
    obtain ⟨k, A, hk, hAl, rfl, hO, hD, hB⟩ := hrel
    have hSL : SL wr u3 (A.map enc) := by
      refine SL.of_own (B := w.heap.size) ?_
      rw [List.length_map, List.map_map]
      exact hO
    by_cases hlt : k < N
    · have hkQ : k < Q.length := by rw [HN.out]; exact hlt
      obtain ⟨b, rfl, hb, hc⟩ := H2.out k hkQ
      have hst := dedF_step (acc := A) hkQ
      rw [hD.out] at hst
      replace hc := (hB.cell (p := ⟨b, k, none⟩) hb).trans hc
      generalize Q[k] = q at hc hst
      obtain ⟨C, hC⟩ : ∃ C, A.contains q = C := ⟨_, rfl⟩
      have HFi := Lib.hid (r7find_any u3 A q C wr hSL (by omega) hC)
      clear hkQ hD hSL
      rw [hC] at hst
      cases C
      · have HS : Hid (dedF (A ++ [q]) (Q.drop (k + 1)) = D) := by have := hst; simp at this; exact this.symm
        clear hst hC
        go_wp2_with fail
        refine HFi.out.mono ?_; rintro e w2 ⟨⟨z, rfl, hz⟩, rfl⟩
        simp only [Bool.not_false] at hz
        have hz' : z < 0 := by simpa using hz
        go_wp2_with (at_builtin; refine wpList_append_own _ rfl (.tmp 18) (.tmp 23) 50 rfl w.heap.size 30 i0 (.string ⟨#[]⟩) 1 16 Tryz.underlying50 hi hz0 hz1 hz2 rfl (by decide) _ A.length (A.map fun p => Value.string (enc p)) rfl (hO.alloc _) ⟨w2.heap.size, 0, none⟩ 1 1 [.string (enc q)] rfl rfl (one_cellC (new_cell0 _ _ _ _)) (by simp [Value.oneCell']) (by unfold maxLen; omega) (by omega) (by simp; have := hB.size; omega) ?_)
        intro v' w' hown' hgrow _
        have hB' := (hB.alloc hB.size (.cells #[.string (enc q)] 30)).grown hgrow (by simp; have := hB.size; omega) (fun k e => (hO.lt k e).1)
        go_wp2_with fail
        exact ⟨⟨k + 1, A ++ [q], by omega, by simp; omega, by go_num, by rw [List.map_append, List.length_append]; exact hown', HS, hB'⟩, by simp [intOf]; omega⟩
      · have HS : Hid (dedF A (Q.drop (k + 1)) = D) := by have := hst; simp at this; exact this.symm
        clear hst hC
        go_wp2_with fail
        refine HFi.out.mono ?_; rintro e w2 ⟨⟨z, rfl, hz⟩, rfl⟩
        simp only [Bool.not_true] at hz
        have hz' : ¬ z < 0 := by simpa using hz
        go_wp2_with fail
        exact ⟨⟨k + 1, A, by omega, by omega, by go_num, hO, HS, hB⟩, by simp [intOf]; omega⟩
    · obtain rfl : k = N := by omega
      have hE : A = D := by
        have := hD.out
        rw [List.drop_of_length_le (by rw [HN.out]; omega)] at this
        exact this
      subst hE
      clear hD hO
      go_wp2_with fail
      go_ret
      exact ⟨⟨_, rfl, hSL⟩, hB⟩
end Go.Proofs.YtjminjliomffaaaGreatDoor

/- The reference of layer 7: part, works. -/
namespace Go.Proofs.YtjminjliomffaaaGreatDoor
open Go.RowKit Num
set_option maxRecDepth 20000
set_option linter.unusedVariables false
set_option exponentiation.threshold 3000
theorem sOf1 (w : World) : Calls Tryz.prog 29 #[.int .u64 1] w fun e w' => e = .returned (.string (enc 1)) ∧ Below w.heap.size w w' := refOf_any 1 w (by omega)
theorem rExp_ok (s t v : ByteArray) (a e n : Nat) (w : World) (hs : IsN s a) (ht : IsN t e) (hv : IsN v n) (h0 : 0 < n) (h64 : v.size ≤ 64) :
    Calls Tryz.prog 69 #[.string s, .string t, .string v] w fun r w' => r = .returned (.tuple #[.string (enc (a ^ e % n)), .int .i64 0]) ∧ Below w.heap.size w w' := by
  have := refMExp_any s t v w h64
  rw [chk21 hs ht hv h0, mo_zero, show nv s = a by rw [hs.eq, nv_enc], show nv t = e by rw [ht.eq, nv_enc], show nv v = n by rw [hv.eq, nv_enc]] at this
  exact this
set_option maxHeartbeats 8000000 in
theorem r7part_any (s : ByteArray) (m : Nat) (v : Value) (Q : List Nat) (w : World) (hs : IsN s m) (h1 : 1 ≤ m) (hv : SL w v (Q.map enc)) (hQ : ∀ q ∈ Q, 2 ≤ q ∧ blen q ≤ 128) (hL : Q.length ≤ 1000000) :
    Calls Tryz.prog 39 #[.string s, v] w fun e w' => e = .returned (.tuple #[.string (enc (rpF Q m 1).1), .bool (rpF Q m 1).2]) ∧ Below w.heap.size w w' := by
  obtain ⟨ao, c, rfl, H⟩ := hv.form
  have hlen : (Q.map enc).length = Q.length := by simp
  obtain ⟨n, hn⟩ : ∃ n, Q.length = n := ⟨_, rfl⟩
  rw [hlen, hn]
  rw [hn] at hL
  have H2 := Lib.hid (fun k (hk : k < Q.length) => by have := H.out k (by simpa using hk); rw [map_enc_at hk] at this; exact this : ∀ k (hk : k < Q.length), ∃ b, ao = some ⟨b, 0, none⟩ ∧ b < w.heap.size ∧ w.cell? ⟨b, k, none⟩ = some (.string (enc Q[k])))
  have HQ := Lib.hid hQ
  have hbm : blen m ≤ 128 := hs.le
  obtain rfl := hs.eq
  obtain ⟨R, G, hR⟩ : ∃ R G, rpF Q m 1 = (R, G) := ⟨_, _, rfl⟩
  rw [hR]
  have HR := Lib.hid hR
  have HN := Lib.hid hn
  clear hs hv H hlen hQ hR hn
  go_enter Tryz.func39, Tryz.ntmps39
  go_wp2_with fail
  refine (sOf1 _).mono ?_; rintro e w1 ⟨rfl, b1⟩
  go_wp2_with fail
  go_loopw [0, 6, 7] (fun v0 v6 i wr => ∃ (k r o : Nat), k ≤ n ∧ i = .int .i64 k ∧ v0 = .string (enc r) ∧ v6 = .string (enc o) ∧ Hid (rpF (Q.drop k) r o = (R, G)) ∧ 1 ≤ r ∧ Hid (o * r = m) ∧ Below w.heap.size w wr) (fun _ _ i _ => n - (intOf i).toNat)
  case atStart => exact ⟨0, m, 1, by omega, rfl, rfl, rfl, by simpa using HR, h1, Lib.hid (by omega), b1⟩
  case round =>
    clear b1
    obtain ⟨k, r, o, hk, rfl, rfl, rfl, hP, hr, ho, hB⟩ := hrel
    by_cases hlt : k < n
    · have hkQ : k < Q.length := by rw [HN.out]; exact hlt
      obtain ⟨b, rfl, hb, hc⟩ := H2.out k hkQ
      have hf := HQ.out _ (List.getElem_mem hkQ)
      have hd : Q.drop k = Q[k] :: Q.drop (k + 1) := List.drop_eq_getElem_cons hkQ
      have hP2 := hP.out
      rw [hd, rpF] at hP2
      have hc0 := hc
      replace hc := (hB.cell (p := ⟨b, k, none⟩) hb).trans hc
      generalize Q[k] = f at hc hc0 hf hP2 hd
      have HC0 := Lib.hid hc0
      clear hP hd hkQ hc0
      obtain ⟨f2, fb⟩ := hf
      obtain ⟨T, hT⟩ : ∃ T, strip 1024 f r o = T := ⟨_, rfl⟩
      rw [hT] at hP2
      have HT := Lib.hid hT
      have HP2 := Lib.hid hP2
      have hr10 : r < 2 ^ 1024 := by
        have h1 : o * r < 256 ^ 128 := by rw [ho.out]; exact (blen_le_iff m 128).1 hbm
        have h2 : 1 ≤ o := by
          rcases Nat.eq_zero_or_pos o with h | h
          · have := ho.out; rw [h, Nat.zero_mul] at this; omega
          · exact h
        have h3 : 1 * r ≤ o * r := Nat.mul_le_mul_right r h2
        have h4 : (256 : Nat) ^ 128 = 2 ^ 1024 := by decide +kernel
        rw [← h4]; omega
      have HR10 := Lib.hid hr10
      have isF : IsN (enc f) f := IsN.mk' fb
      have IF := Lib.hid isF
      clear hT hP2 hr10 isF fb
      go_wp2_with fail
      go_loopw [0, 6, 8] (fun v0 v6 v8 wq => ∃ (j x y : Nat) (fd : Bool), v0 = .string (enc x) ∧ v6 = .string (enc y) ∧ v8 = .bool fd ∧ Hid (strip j f x y = T) ∧ Hid (x < 2 ^ j) ∧ 1 ≤ x ∧ Hid (y * x = m) ∧ Hid ((fd = false → x = r ∧ y = o) ∧ (fd = true → r % f = 0)) ∧ Below w.heap.size w wq) (fun v0 _ _ _ => nvV v0)
      case atStart => exact ⟨1024, r, o, false, rfl, rfl, rfl, HT, HR10, hr, ho, ⟨fun _ => ⟨rfl, rfl⟩, fun h => by cases h⟩, hB⟩
      case round =>
        clear hc hB HR10 ho hr HT
        obtain ⟨j, x, y, fd, rfl, rfl, rfl, hS, hx, hx1, hy, hfd, hB⟩ := hrel
        have hc := (hB.cell (p := ⟨b, k, none⟩) hb).trans HC0.out
        have hxm : x ≤ m := by
          have h2 : 1 ≤ y := by
            rcases Nat.eq_zero_or_pos y with h | h
            · have := hy.out; rw [h, Nat.zero_mul] at this; omega
            · exact h
          have := Nat.mul_le_mul_right x h2
          have := hy.out
          omega
        have hym : y ≤ m := by have := Nat.mul_le_mul_left y hx1; have := hy.out; omega
        have IX : IsN (enc x) x := IsN.mk' (Nat.le_trans (blen_mono hxm) hbm)
        have IY : IsN (enc y) y := IsN.mk' (Nat.le_trans (blen_mono hym) hbm)
        have HD := fun w => refDivMod_any (enc x) (enc f) x f w IX IF.out (by omega)
        by_cases hdv : x % f = 0
        · have hxf : f * (x / f) = x := Nat.mul_div_cancel' (Nat.dvd_of_mod_eq_zero hdv)
          have hyf : y * f * (x / f) = m := by rw [Nat.mul_assoc, hxf]; exact hy.out
          have hq1 : 1 ≤ x / f := by
            rcases Nat.eq_zero_or_pos (x / f) with h | h
            · rw [h] at hxf; omega
            · exact h
          have hlt2 : x / f < x := Nat.div_lt_self (by omega) (by omega)
          have hyfm : y * f ≤ m := by have := Nat.mul_le_mul_left (y * f) hq1; omega
          have hbf : blen (y * f) ≤ 128 := Nat.le_trans (blen_mono hyfm) hbm
          have HM := fun w => refMul_any (enc y) (enc f) y f w IY IF.out
          simp only [fitS_ok hbf, fitE_ok hbf] at HM
          simp only [hdv, show enc 0 = ⟨#[]⟩ from rfl] at HD
          obtain ⟨j', rfl⟩ : ∃ j', j = j' + 1 := by
            cases j with
            | zero => have := hx.out; simp at this; omega
            | succ j' => exact ⟨j', rfl⟩
          have hS2 : strip j' f (x / f) (y * f) = T := by
            have := hS.out
            unfold strip at this
            rw [if_pos hdv] at this
            exact this
          have hx2 : x / f < 2 ^ j' := by
            have h1 := hx.out
            rw [Nat.pow_succ] at h1
            have h2 : 2 * (x / f) ≤ f * (x / f) := Nat.mul_le_mul_right _ f2
            omega
          have hrf : r % f = 0 := by
            cases fd
            · rw [← (hfd.out.1 rfl).1]; exact hdv
            · exact hfd.out.2 rfl
          have HS2 := Lib.hid hS2
          have HX2 := Lib.hid hx2
          have HY2 := Lib.hid hyf
          have HRF := Lib.hid hrf
          have HMs : nv (enc (x / f)) < nv (enc x) := by rw [nv_enc, nv_enc]; exact hlt2
          have HD := Lib.hid HD
          have HM := Lib.hid HM
          generalize x / f = x2 at HS2 HX2 HY2 HMs HD hq1
          generalize y * f = y2 at HS2 HY2 HM
          clear hdv hxf hyf hlt2 hyfm hbf hS hx hy hS2 hx2 IX IY hrf hfd
          go_wp2_with fail
          refine (HD.out _).mono ?_; rintro e w2 ⟨rfl, b2⟩
          have b4 := (hB.trans (b2.mono hB.size))
          have hc2 := (b4.cell (p := ⟨b, k, none⟩) hb).trans HC0.out
          go_wp2_with fail
          refine (HM.out _).mono ?_; rintro e w3 ⟨rfl, b3⟩
          have b5 := b4.trans (b3.mono b4.size)
          go_wp2_with fail
          exact ⟨⟨j', x2, y2, true, by trivial, by trivial, by trivial, HS2, HX2, hq1, HY2, ⟨fun h => (by cases h), fun _ => HRF.out⟩, b5⟩, by simpa [nvV] using HMs⟩
        · obtain ⟨k1, k2⟩ := And.intro (notEmpty_enc (b := x % f) (by omega)) (toList_enc_nil (b := x % f) (by omega))
          have hT : T = (x, y) := by
            have := hS.out
            cases j with
            | zero => have := hx.out; simp at this; omega
            | succ j' =>
              unfold strip at this
              rw [if_neg hdv] at this
              exact this.symm
          have hP3 := HP2.out
          rw [hT] at hP3
          have hdv2 : fd = false → r % f ≠ 0 := fun h => by rw [← (hfd.out.1 h).1]; exact hdv
          have HP3 : Hid ((fd = false → y = R ∧ false = G) ∧ (fd = true → rpF (Q.drop (k + 1)) x y = (R, G))) := by
            refine ⟨fun h => ?_, fun h => ?_⟩
            · rw [if_neg (hdv2 h)] at hP3
              injection hP3 with e1 e2
              exact ⟨by rw [← e1]; exact (hfd.out.1 h).2, e2⟩
            · rw [if_pos (hfd.out.2 h)] at hP3
              exact hP3
          have HD := Lib.hid HD
          generalize x / f = x2 at HD
          generalize x % f = x3 at HD k1 k2
          clear hdv hS hx hT hP3 IX IY hfd hdv2 HP2
          go_wp2_with fail
          refine (HD.out _).mono ?_; rintro e w2 ⟨rfl, b2⟩
          have b4 := (hB.trans (b2.mono hB.size))
          cases fd
          · obtain ⟨rfl, rfl⟩ := HP3.out.1 rfl
            clear HP3
            go_wp2_with fail
            go_ret2
            exact ⟨rfl, b4⟩
          · have HP4 := Lib.hid (HP3.out.2 rfl)
            clear HP3
            go_wp2_with fail
            exact ⟨⟨k + 1, x, y, by omega, by go_num, by trivial, by trivial, HP4, hx1, hy, b4⟩, by simp [intOf]; omega⟩
    · obtain rfl : k = n := by omega
      have hE : R = o ∧ G = true := by
        have := hP.out
        rw [List.drop_of_length_le (by rw [HN.out]; omega)] at this
        injection this with h1 h2
        exact ⟨h1.symm, h2.symm⟩
      obtain ⟨rfl, rfl⟩ := hE
      go_wp2_with fail
      go_ret2
      exact ⟨rfl, hB⟩
set_option maxHeartbeats 4000000 in
theorem r7works_any (s A : ByteArray) (n a : Nat) (v : Value) (Q : List Nat) (w : World) (hs : IsN s n) (h2 : 2 ≤ n) (h64 : s.size ≤ 64) (hA : IsN A a) (hv : SL w v (Q.map enc)) (hQ : ∀ q ∈ Q, 2 ≤ q ∧ blen q ≤ 128) (hL : Q.length ≤ 1000000) :
    Calls Tryz.prog 41 #[.string s, .string A, v] w fun e w' => e = .returned (.bool (provB n a Q)) ∧ Below w.heap.size w w' := by
  obtain ⟨ao, c, rfl, H⟩ := hv.form
  have hlen : (Q.map enc).length = Q.length := by simp
  obtain ⟨N, hN⟩ : ∃ N, Q.length = N := ⟨_, rfl⟩
  rw [hlen, hN]
  rw [hN] at hL
  have H2 := Lib.hid (fun k (hk : k < Q.length) => by have := H.out k (by simpa using hk); rw [map_enc_at hk] at this; exact this : ∀ k (hk : k < Q.length), ∃ b, ao = some ⟨b, 0, none⟩ ∧ b < w.heap.size ∧ w.cell? ⟨b, k, none⟩ = some (.string (enc Q[k])))
  have HQ := Lib.hid hQ
  have HN := Lib.hid hN
  have hm : IsN (enc (n - 1)) (n - 1) := IsN.mk' (Nat.le_trans (blen_mono (by omega)) hs.le)
  have HM := Lib.hid hm
  have HLs := Lib.hid (fun w => refSub_any s (enc 1) n 1 w hs isC1 (by omega))
  have HE1 := (fun w => rExp_ok A (enc (n - 1)) s a (n - 1) n w hA hm hs (by omega) h64)
  obtain ⟨V, hV⟩ : ∃ V, provB n a Q = V := ⟨_, rfl⟩
  rw [hV]
  have hV2 := hV
  rw [provB_eq] at hV2
  obtain ⟨Z, hZ⟩ : ∃ Z, a ^ (n - 1) % n = Z := ⟨_, rfl⟩
  simp only [hZ] at HE1 hV2
  have HE1 := Lib.hid HE1
  have HH := Lib.hid (And.intro hA hs)
  have HV := Lib.hid hV
  have H64 := Lib.hid h64
  clear hv H hlen hQ hN hs hm hA hZ hV h64
  go_enter Tryz.func41, Tryz.ntmps41
  go_wp2_with fail
  refine (sOf1 _).mono ?_; rintro e w1 ⟨rfl, b1⟩
  go_wp2_with fail
  refine (HLs.out _).mono ?_; rintro e w2 ⟨rfl, b2⟩
  have b3 := b1.trans (b2.mono b1.size)
  clear b1 b2
  go_wp2_with fail
  refine (HE1.out _).mono ?_; rintro e w4 ⟨rfl, b4⟩
  have b5 := b3.trans (b4.mono b3.size)
  clear b3 b4
  by_cases hZ1 : Z = 1
  · subst hZ1
    have e1 := enc_same 1
    simp only [show ((1 : Nat) == 1) = true from rfl, Bool.true_and] at hV2
    have HV2 := Lib.hid hV2
    clear hV2
    go_wp2_with fail
    refine (sOf1 _).mono ?_; rintro e w6 ⟨rfl, b6⟩
    have b7 := b5.trans (b6.mono b5.size)
    clear b5 b6
    go_wp2_with fail
    go_loopw [11] (fun i wq => ∃ k : Nat, k ≤ N ∧ i = .int .i64 k ∧ Hid ((Q.take k).any (badF n a) = false) ∧ Below w.heap.size w wq) (fun i _ => N - (intOf i).toNat)
    case atStart => exact ⟨0, by omega, rfl, Lib.hid (by simp), b7⟩
    case round =>
      clear b7
      obtain ⟨k, hk, rfl, hAn, hBq⟩ := hrel
      by_cases hlt : k < N
      · have hkQ : k < Q.length := by rw [HN.out]; exact hlt
        obtain ⟨b, rfl, hb, hc⟩ := H2.out k hkQ
        replace hc := (hBq.cell (p := ⟨b, k, none⟩) hb).trans hc
        obtain ⟨q2, qb⟩ := HQ.out _ (List.getElem_mem hkQ)
        have HT : (Q.take (k + 1)).any (badF n a) = badF n a Q[k] := by
          rw [List.take_succ_eq_append_getElem hkQ, List.any_append, hAn.out]; simp
        have HS : badF n a Q[k] = true → V = false := fun h => by rw [← HV.out]; exact provB_bad (List.getElem_mem hkQ) h
        generalize Q[k] = f at hc q2 qb HT HS
        have IF : IsN (enc f) f := IsN.mk' qb
        have HDV := Lib.hid (fun w => refDivMod_any (enc (n - 1)) (enc f) (n - 1) f w HM.out IF (by omega))
        have IE : IsN (enc ((n - 1) / f)) ((n - 1) / f) := IsN.mk' (Nat.le_trans (blen_mono (Nat.div_le_self _ _)) HM.out.le)
        have HEF := (fun w => rExp_ok A (enc ((n - 1) / f)) s a ((n - 1) / f) n w HH.out.1 IE HH.out.2 (by omega) H64.out)
        have hYn : a ^ ((n - 1) / f) % n < n := Nat.mod_lt _ (by omega)
        unfold badF at HT HS
        obtain ⟨Y, hY⟩ : ∃ Y, a ^ ((n - 1) / f) % n = Y := ⟨_, rfl⟩
        simp only [hY] at HEF hYn HT HS
        have IYY : IsN (enc Y) Y := IsN.mk' (Nat.le_trans (blen_mono (show Y ≤ n by omega)) HH.out.2.le)
        by_cases hY0 : Y = 0
        · subst hY0
          simp only [show enc 0 = ⟨#[]⟩ from rfl] at HEF
          obtain rfl : V = false := HS rfl
          have HEF := Lib.hid HEF
          clear hkQ q2 qb HT HS IF IE hYn hY IYY
          go_wp2_with fail
          refine (HDV.out _).mono ?_; rintro e w4 ⟨rfl, b4⟩
          have b5 := hBq.trans (b4.mono hBq.size)
          go_wp2_with fail
          refine (HEF.out _).mono ?_; rintro e w6 ⟨rfl, b6⟩
          have b7 := b5.trans (b6.mono b5.size)
          go_wp2_with fail
          go_ret
          exact ⟨rfl, b7⟩
        · obtain ⟨k1, k2⟩ := And.intro (notEmpty_enc (b := Y) (by omega)) (toList_enc_nil (b := Y) (by omega))
          have HLY := Lib.hid (fun w => refSub_any (enc Y) (enc 1) Y 1 w IYY isC1 (by omega))
          have IY1 : IsN (enc (Y - 1)) (Y - 1) := IsN.mk' (Nat.le_trans (blen_mono (show Y - 1 ≤ n by omega)) HH.out.2.le)
          have HG := (fun w => refGcd_any (enc (Y - 1)) s (Y - 1) n w IY1 HH.out.2)
          rw [show (Y == 0) = false by rw [beq_eq_false_iff_ne]; exact hY0, Bool.false_or] at HT HS
          obtain ⟨g, hg⟩ : ∃ g, Nat.gcd (Y - 1) n = g := ⟨_, rfl⟩
          simp only [hg] at HG HT HS
          have HEF := Lib.hid HEF
          have HG := Lib.hid HG
          by_cases hg1 : g = 1
          · subst hg1
            have HT2 : Hid ((Q.take (k + 1)).any (badF n a) = false) := HT
            clear hkQ q2 qb HT HS IF IE hYn hY IYY IY1 hg hY0
            go_wp2_with fail
            refine (HDV.out _).mono ?_; rintro e w4 ⟨rfl, b4⟩
            have b5 := hBq.trans (b4.mono hBq.size)
            go_wp2_with fail
            refine (HEF.out _).mono ?_; rintro e w6 ⟨rfl, b6⟩
            have b7 := b5.trans (b6.mono b5.size)
            go_wp2_with fail
            refine (sOf1 _).mono ?_; rintro e w7 ⟨rfl, c7⟩
            replace b7 := b7.trans (c7.mono b7.size)
            go_wp2_with fail
            refine (HLY.out _).mono ?_; rintro e w8 ⟨rfl, b8⟩
            have b9 := b7.trans (b8.mono b7.size)
            go_wp2_with fail
            refine (HG.out _).mono ?_; rintro e w10 ⟨rfl, b10⟩
            have b11 := b9.trans (b10.mono b9.size)
            go_wp2_with fail
            refine (sOf1 _).mono ?_; rintro e w12 ⟨rfl, c12⟩
            replace b11 := b11.trans (c12.mono b11.size)
            go_wp2_with fail
            exact ⟨⟨k + 1, by omega, by go_num, HT2, b11⟩, by simp [intOf]; omega⟩
          · obtain ⟨t1, t2⟩ := enc_diff (a := g) (b := 1) hg1
            obtain rfl : V = false := HS (by rw [show (g == 1) = false by rw [beq_eq_false_iff_ne]; exact hg1]; rfl)
            clear hkQ q2 qb HT HS IF IE hYn hY IYY IY1 hg hY0 hg1
            go_wp2_with fail
            refine (HDV.out _).mono ?_; rintro e w4 ⟨rfl, b4⟩
            have b5 := hBq.trans (b4.mono hBq.size)
            go_wp2_with fail
            refine (HEF.out _).mono ?_; rintro e w6 ⟨rfl, b6⟩
            have b7 := b5.trans (b6.mono b5.size)
            go_wp2_with fail
            refine (sOf1 _).mono ?_; rintro e w7 ⟨rfl, c7⟩
            replace b7 := b7.trans (c7.mono b7.size)
            go_wp2_with fail
            refine (HLY.out _).mono ?_; rintro e w8 ⟨rfl, b8⟩
            have b9 := b7.trans (b8.mono b7.size)
            go_wp2_with fail
            refine (HG.out _).mono ?_; rintro e w10 ⟨rfl, b10⟩
            have b11 := b9.trans (b10.mono b9.size)
            go_wp2_with fail
            refine (sOf1 _).mono ?_; rintro e w12 ⟨rfl, c12⟩
            replace b11 := b11.trans (c12.mono b11.size)
            go_wp2_with fail
            go_ret
            exact ⟨rfl, b11⟩
      · obtain rfl : k = N := by omega
        have hAll := hAn.out
        rw [List.take_of_length_le (by rw [HN.out]; omega)] at hAll
        obtain rfl : V = true := by rw [← HV2.out, hAll]; rfl
        clear hAll hAn
        go_wp2_with fail
        go_ret
        exact ⟨rfl, hBq⟩
  · obtain ⟨t1, t2⟩ := enc_diff (a := Z) (b := 1) hZ1
    obtain rfl : V = false := by rw [← hV2, show (Z == 1) = false by rw [beq_eq_false_iff_ne]; exact hZ1, Bool.false_and]
    clear hV2 hZ1
    go_wp2_with fail
    refine (sOf1 _).mono ?_; rintro e w6 ⟨rfl, b6⟩
    have b7 := b5.trans (b6.mono b5.size)
    go_wp2_with fail
    go_ret
    exact ⟨rfl, b7⟩
end Go.Proofs.YtjminjliomffaaaGreatDoor

/- The reference's step is correct exactly if the program's is. Plain. -/
namespace Go.Proofs.YtjminjliomffaaaGreatDoor.Num
set_option maxRecDepth 20000
set_option linter.unusedVariables false
set_option exponentiation.threshold 3000
def restF : List Nat → Nat → Nat → Nat × Nat
  | [], r, o => (r, o)
  | f :: fs, r, o => restF fs (strip 1024 f r o).1 (strip 1024 f r o).2
theorem partF_rest : ∀ (L : List Nat) (r o : Nat), partF L r o = (restF L r o).2
  | [], _, _ => rfl
  | f :: fs, r, o => partF_rest fs _ _
theorem restF_app : ∀ (A B : List Nat) (r o : Nat), restF (A ++ B) r o = restF B (restF A r o).1 (restF A r o).2
  | [], _, _, _ => rfl
  | f :: fs, B, r, o => restF_app fs B _ _
theorem restF_dvd : ∀ (A : List Nat) (r o : Nat), (∀ q ∈ A, 2 ≤ q) → 1 ≤ r → r < 2 ^ 1024 → (restF A r o).1 ∣ r ∧ 1 ≤ (restF A r o).1
  | [], r, o, _, h, _ => ⟨Nat.dvd_refl _, h⟩
  | f :: fs, r, o, hq, h, hb => by
    obtain ⟨v, x, e, h1, _, x1, x2⟩ := strip_char (p := f) (o := o) (hq f (List.mem_cons_self ..)) h hb
    have ih := restF_dvd fs (strip 1024 f r o).1 (strip 1024 f r o).2 (fun q h => hq q (List.mem_cons_of_mem _ h)) (by rw [e]; exact x1) (by rw [e]; show x < _; omega)
    refine ⟨Nat.dvd_trans ih.1 ?_, ih.2⟩
    rw [e]
    exact ⟨f ^ v, by rw [Nat.mul_comm]; exact h1⟩
theorem restF_not {x : Nat} (A : List Nat) : ∀ (r o : Nat), (∀ q ∈ A, 2 ≤ q) → 1 ≤ r → r < 2 ^ 1024 → x ∈ A → ¬ x ∣ (restF A r o).1 := by
  induction A with
  | nil => intro r o _ _ _ hx; cases hx
  | cons f fs ih =>
    intro r o hq h hb hx
    obtain ⟨v, y, e, h1, n1, x1, x2⟩ := strip_char (p := f) (o := o) (hq f (List.mem_cons_self ..)) h hb
    have hq2 : ∀ q ∈ fs, 2 ≤ q := fun q h => hq q (List.mem_cons_of_mem _ h)
    rw [restF, e]
    rcases List.mem_cons.1 hx with rfl | hx
    · exact fun hd => n1 (Nat.dvd_trans hd (restF_dvd fs y _ hq2 x1 (by omega)).1)
    · exact ih y _ hq2 x1 (by omega) hx
theorem strip_same {x r o : Nat} (h : ¬ x ∣ r) : strip 1024 x r o = (r, o) := by
  show strip (1023 + 1) x r o = (r, o)
  rw [strip, if_neg fun e => h (Nat.dvd_of_mod_eq_zero e)]
theorem partF_ded : ∀ (Q A : List Nat) (r o : Nat), (∀ q ∈ A ++ Q, 2 ≤ q) → 1 ≤ r → r < 2 ^ 1024 → partF (A ++ Q) r o = partF (dedF A Q) r o
  | [], A, r, o, _, _, _ => by rw [List.append_nil, dedF]
  | x :: xs, A, r, o, hq, h, hb => by
    unfold dedF
    split
    · next hx =>
      have hx : x ∈ A := by simpa using hx
      rw [← partF_ded xs A r o (fun q h => hq q (by rcases List.mem_append.1 h with h | h; · exact List.mem_append_left _ h
                                                    · exact List.mem_append_right _ (List.mem_cons_of_mem _ h))) h hb]
      rw [partF_rest, partF_rest, restF_app, restF_app]
      show (restF xs (strip 1024 x _ _).1 (strip 1024 x _ _).2).2 = _
      rw [strip_same (restF_not A r o (fun q h => hq q (List.mem_append_left _ h)) h hb hx)]
    · rw [← partF_ded xs (A ++ [x]) r o (fun q h => hq q (by simpa using h)) h hb, List.append_assoc]
      rfl
theorem rpF_eq : ∀ (D : List Nat) (r o : Nat), (∀ q ∈ D, IsP q) → D.Nodup → 1 ≤ r → r < 2 ^ 1024 → (rpF D r o).2 = D.all (fun q => r % q == 0) ∧ ((rpF D r o).2 = true → (rpF D r o).1 = partF D r o)
  | [], r, o, _, _, _, _ => ⟨rfl, fun _ => rfl⟩
  | f :: fs, r, o, hp, hn, h, hb => by
    have hf := hp f (List.mem_cons_self ..)
    rw [List.nodup_cons] at hn
    unfold rpF
    by_cases hd : r % f = 0
    · rw [if_pos hd]
      obtain ⟨v, x, e, h1, n1, x1, x2⟩ := strip_char (p := f) (o := o) hf.1 h hb
      have ih := rpF_eq fs (strip 1024 f r o).1 (strip 1024 f r o).2 (fun q h => hp q (List.mem_cons_of_mem _ h)) hn.2 (by rw [e]; exact x1) (by rw [e]; show x < _; omega)
      refine ⟨?_, ih.2⟩
      rw [ih.1, List.all_cons, show (r % f == 0) = true by rw [hd]; rfl, Bool.true_and]
      rw [Bool.eq_iff_iff, List.all_eq_true, List.all_eq_true]
      have key : ∀ q ∈ fs, ((strip 1024 f r o).1 % q == 0) = (r % q == 0) := fun q hq => by
        have hqp := hp q (List.mem_cons_of_mem _ hq)
        have hne : q ≠ f := fun e => hn.1 (e ▸ hq)
        rw [e, Bool.eq_iff_iff, beq_iff_eq, beq_iff_eq, ← Nat.dvd_iff_mod_eq_zero, ← Nat.dvd_iff_mod_eq_zero]
        constructor
        · exact fun hd => by rw [h1]; exact Nat.dvd_trans hd (Nat.dvd_mul_left _ _)
        · intro hd
          rw [h1] at hd
          rcases hqp.dvd_mul hd with h | h
          · exfalso
            rcases hf.2 q (hqp.dvd_pow h) with h | h
            · have := hqp.1; omega
            · exact hne h
          · exact h
      exact ⟨fun H q hq => by rw [← key q hq]; exact H q hq, fun H q hq => by rw [key q hq]; exact H q hq⟩
    · rw [if_neg hd]
      refine ⟨?_, fun h => by cases h⟩
      rw [List.all_cons, show (r % f == 0) = false by rw [beq_eq_false_iff_ne]; exact hd, Bool.false_and]
theorem rpF_le (D : List Nat) : ∀ (r o : Nat), (∀ q ∈ D, 2 ≤ q) → 1 ≤ r → r < 2 ^ 1024 → (rpF D r o).1 ≤ o * r := by
  induction D with
  | nil => intro r o _ h _; show o ≤ o * r; exact Nat.le_mul_of_pos_right o (by omega)
  | cons f fs ih =>
    intro r o hq h hb
    rw [rpF]
    split
    · obtain ⟨v, x, e, h1, _, x1, x2⟩ := strip_char (p := f) (o := o) (hq f (List.mem_cons_self ..)) h hb
      rw [e]
      refine Nat.le_trans (ih x _ (fun q h => hq q (List.mem_cons_of_mem _ h)) x1 (by omega)) ?_
      rw [h1, Nat.mul_assoc]
      exact Nat.le_refl _
    · show o ≤ o * r
      exact Nat.le_mul_of_pos_right o (by omega)
/-- a correct step of the reference -/
def corR (P A : Nat) (D : List Nat) : Bool := (rpF D (P - 1) 1).2 && (decide (P < (rpF D (P - 1) 1).1 * (rpF D (P - 1) 1).1) && provB P A D)
theorem corR_eq {P A : Nat} {Q : List Nat} (hq : ∀ q ∈ Q, IsP q) (h2 : 2 ≤ P) (hb : P < 2 ^ 1024) : corR P A (dedF [] Q) = corB P A Q := by
  have hm : ∀ x, x ∈ dedF [] Q ↔ x ∈ Q := fun x => by rw [dedF_mem]; simp
  have hall : ∀ f : Nat → Bool, (dedF [] Q).all f = Q.all f := fun f => by
    rw [Bool.eq_iff_iff, List.all_eq_true, List.all_eq_true]
    exact ⟨fun h x hx => h x ((hm x).2 hx), fun h x hx => h x ((hm x).1 hx)⟩
  obtain ⟨e1, e2⟩ := rpF_eq (dedF [] Q) (P - 1) 1 (fun q h => hq q ((hm q).1 h)) (dedF_nodup Q [] List.nodup_nil) (by omega) (by omega)
  have e3 := partF_ded Q [] (P - 1) 1 (fun q h => (hq q (by simpa using h)).1) (by omega) (by omega)
  rw [List.nil_append] at e3
  have e4 : provB P A (dedF [] Q) = provB P A Q := by unfold provB; rw [hall]
  unfold corR corB
  rw [← hall, e4, e3, ← e1]
  cases h : (rpF (dedF [] Q) (P - 1) 1).2
  · rfl
  · rw [e2 h]
/-- earlier steps that are correct are prime -/
theorem cr_prime {L : List Stp} {k : Nat} (h1 : wfAll L = true) (h2 : ∀ j (hj : j < L.length), j < k → crB L L[j] = true) : ∀ i (hi : i < L.length), i < k → IsP (nv L[i].1) := by
  intro i
  induction i using Nat.strongRecOn with
  | ind i ih =>
    intro hi hik
    have w1 := List.all_eq_true.1 h1 i (List.mem_range.2 hi)
    rw [show L.getD i (⟨#[]⟩, ⟨#[]⟩, []) = L[i] by simp [List.getD_eq_getElem?_getD, hi]] at w1
    have c1 := h2 i hi hik
    generalize L[i] = s at w1 c1
    unfold wfB at w1
    unfold crB at c1
    simp only [Bool.and_eq_true, decide_eq_true_eq] at w1
    obtain ⟨_, w2, w3⟩ := w1
    by_cases hs : s.2.2 = []
    · rw [if_pos hs] at c1
      simp only [Bool.and_eq_true, decide_eq_true_eq] at c1
      exact isB_prime (by omega) c1.2
    · rw [if_neg hs] at c1 w3
      simp only [Bool.and_eq_true] at w3
      refine corB_prime c1 w2 (fun q hq => ?_)
      obtain ⟨f, hf, rfl⟩ := List.mem_map.1 hq
      obtain ⟨f1, f2⟩ := asc_mem w3.1 f hf
      have f3 : f.toNat < i := by omega
      have := ih f.toNat f3 (by omega) (by omega)
      unfold prm
      rw [show L.getD f.toNat (⟨#[]⟩, ⟨#[]⟩, []) = L[f.toNat] by simp [List.getD_eq_getElem?_getD, show f.toNat < L.length by omega]]
      exact this
/-- the factors of a step whose earlier steps are correct are prime -/
theorem fac_prime {L : List Stp} {k : Nat} (h1 : wfAll L = true) (hk : k < L.length) (h2 : ∀ j (hj : j < L.length), j < k → crB L L[j] = true) : ∀ q ∈ L[k].2.2.map (prm L), IsP q := by
  intro q hq
  obtain ⟨f, hf, rfl⟩ := List.mem_map.1 hq
  have w1 := List.all_eq_true.1 h1 k (List.mem_range.2 hk)
  rw [show L.getD k (⟨#[]⟩, ⟨#[]⟩, []) = L[k] by simp [List.getD_eq_getElem?_getD, hk]] at w1
  obtain ⟨f1, f2⟩ := wfB_idx w1 f hf
  have f3 : f.toNat < k := by omega
  have := cr_prime h1 h2 f.toNat (by omega) f3
  unfold prm
  rw [show L.getD f.toNat (⟨#[]⟩, ⟨#[]⟩, []) = L[f.toNat] by simp [List.getD_eq_getElem?_getD, show f.toNat < L.length by omega]]
  exact this
end Go.Proofs.YtjminjliomffaaaGreatDoor.Num

/- The reference of layer 7: correct, Check, Prime; the law CertificateChecks. -/
namespace Go.Proofs.YtjminjliomffaaaGreatDoor
open Go.RowKit Num
set_option maxRecDepth 20000
set_option linter.unusedVariables false
set_option exponentiation.threshold 3000
theorem rOf65536 (w : World) : Calls Tryz.prog 29 #[.int .u64 65536] w fun e w' => e = .returned (.string (enc 65536)) ∧ Below w.heap.size w w' := refOf_any 65536 w (by omega)
theorem isC65536 : IsN (enc 65536) 65536 := IsN.mk' (by decide +kernel)
set_option maxHeartbeats 4000000 in
theorem r7correct0_any (a : Option Addr) (r c k : Nat) (R : List StR) (w : World) (hR : CS w a R) (hr : R.length = r) (hk : k < R.length) (hbig : R.length ≤ maxLen) (hF : R[k].2.2.2.2 = []) (hP : IsN R[k].1 (nv R[k].1)) :
    Calls Tryz.prog 17 #[.agg #[.slice a r c], .int .i64 (k : Int)] w fun e w' => e = .returned (.bool (crB (R.map stp) (stp R[k]))) ∧ Below w.heap.size w w' := by
  rw [hr] at hk
  unfold maxLen at hbig
  obtain ⟨b, off, rfl, d0, d1, d2, _⟩ := hR k (by omega)
  generalize R[k] = x at d0 d1 d2 hF hP ⊢
  obtain ⟨P, A, fa, fc, F⟩ := x
  simp only at d0 d1 d2 hF hP ⊢
  subst hF
  have e1 : crB (R.map stp) (stp (P, A, fa, fc, [])) = (decide (nv P < 65536) && isB (nv P)) := rfl
  rw [e1]
  obtain ⟨L, hL⟩ : ∃ L, decide (nv P < 65536) = L := ⟨_, rfl⟩
  have HL := Lib.hid (lessW hP isC65536 hL)
  rw [hL]
  have q0 := (Below.refl _ w).alloc (Nat.le_refl _) (.cells #[.slice (some ⟨b, off, none⟩) r c] 24)
  replace d0 := cellB_keep d0 q0
  replace d1 := cellB_keep d1 q0
  replace d2 := cellB_keep d2 q0
  have hct := CtB.new w (.slice (some ⟨b, off, none⟩) r c)
  have c0 := hct.c0
  clear e1 hR
  go_enter Tryz.func17, Tryz.ntmps17
  go_wp2_with fail
  have hS := StB.new (P := .string P) (A := .string A) (v := .slice fa 0 fc) (w.alloc (.cells #[.slice (some ⟨b, off, none⟩) r c] 24))
  have q1 := q0.alloc q0.size (.cells #[.string P, .string A, .slice fa 0 fc] 38)
  rw [show (w.alloc (.cells #[.slice (some ⟨b, off, none⟩) r c] 24)).heap.size = w.heap.size + 1 from by simp] at hS
  clear d0 d1 d2 hct c0 q0
  generalize w.heap.size + 1 = q at hS ⊢
  generalize World.alloc (World.alloc _ _) _ = w2 at hS q1 ⊢
  have c0 := hS.c0
  have c1 := hS.c1
  have hb0 := Below.refl w2.heap.size w2
  cases L
  · clear hL
    go_region_held3 (fun w' => w'.cell? ⟨q, 0, none⟩ = some (.string P) ∧ w'.cell? ⟨q, 1, none⟩ = some (.string A) ∧ StB w' q (.string P) (.string A) (.slice fa 0 fc) ∧ Below w2.heap.size w2 w')
      (first | exact ⟨c0, c1, hS, hb0.drew⟩ | assumption | (refine keepF ?_ bn; assumption))
      (first
        | (go_at_call 29; (with_reducible refine (rOf65536 _).mono ?_); rintro e wn ⟨rfl, bn⟩)
        | (go_at_call 35; (with_reducible refine (HL.out _).mono ?_); rintro e wn ⟨rfl, bn⟩))
    all_goals (go_split_ands; have hq := q1.trans ((by assumption : Below w2.heap.size w2 _).mono q1.size); go_wp2_with fail; go_ret; exact ⟨rfl, hq⟩)
  · have hB : isS P = isB (nv P) := isS_of hP (by
      rw [decide_eq_true_eq] at hL
      rw [blen_le_iff]
      exact Nat.lt_of_lt_of_le hL (by decide))
    have HI := (fun w => refIs_any P w (by have := hP.le; have := hP.size; omega))
    rw [hB] at HI
    have HI := Lib.hid HI
    clear hL hB
    go_region_held3 (fun w' => w'.cell? ⟨q, 0, none⟩ = some (.string P) ∧ w'.cell? ⟨q, 1, none⟩ = some (.string A) ∧ StB w' q (.string P) (.string A) (.slice fa 0 fc) ∧ Below w2.heap.size w2 w')
      (first | exact ⟨c0, c1, hS, hb0.drew⟩ | assumption | (refine keepF ?_ bn; assumption))
      (first
        | (go_at_call 29; (with_reducible refine (rOf65536 _).mono ?_); rintro e wn ⟨rfl, bn⟩)
        | (go_at_call 35; (with_reducible refine (HL.out _).mono ?_); rintro e wn ⟨rfl, bn⟩))
    all_goals (go_split_ands; rename_i w4 _ _ _ _; have hq := q1.trans ((by assumption : Below w2.heap.size w2 _).mono q1.size); go_wp2_with fail; refine (HI.out _).mono ?_; rintro e w5 ⟨rfl, b5⟩; have hq2 := hq.trans (b5.mono hq.size); go_wp2_with fail; go_ret; exact ⟨rfl, hq2⟩)
/-- the cells that the round reads, kept -/
theorem cells4 {w1 : World} {p q r c n fc b off j k : Nat} {fa : Option Addr} {P A : ByteArray} {F : List Int} {R : List StR} {y : ByteArray} (h1 : CtB w1 p (.slice (some ⟨b, off, none⟩) r c)) (h2 : StB w1 q (.string P) (.string A) (.slice fa n fc))
    (hkF : k < F.length) (hF : FS w1 fa F) (hj : j < R.length) (hR : CS w1 (some ⟨b, off, none⟩) R) (e1 : F[k] = (j : Int)) (e2 : R[j].1 = y) {w' : World} (hb : Below w1.heap.size w1 w') :
    ∃ fb foff, fa = some ⟨fb, foff, none⟩ ∧ (w'.cell? ⟨p, 0, none⟩ = some (.slice (some ⟨b, off, none⟩) r c) ∧ w'.cell? ⟨q, 2, none⟩ = some (.slice (some ⟨fb, foff, none⟩) n fc) ∧ w'.cell? ⟨fb, foff + k, none⟩ = some (.int .i64 (j : Int)) ∧ w'.cell? ⟨b, off + j * 3, none⟩ = some (.string y)) := by
  obtain ⟨fb, foff, rfl, hf⟩ := hF k hkF
  obtain ⟨b', off', e', d0, _, _, _⟩ := hR j hj
  injection e' with e'; injection e' with a1 a2 _
  subst a1 a2
  rw [e1] at hf
  rw [e2] at d0
  exact ⟨fb, foff, rfl, cellB_keep h1.c0 hb, cellB_keep h2.c2 hb, cellB_keep hf hb, cellB_keep d0 hb⟩
set_option maxHeartbeats 8000000 in
theorem r7correct1_any (a : Option Addr) (r c k n : Nat) (R : List StR) (w : World) (hR : CS w a R) (hr : R.length = r) (hk : k < R.length) (hbig : R.length ≤ 256) (hn : R[k].2.2.2.2.length = n) (h0 : 0 < n) (hL : n ≤ 100000)
    (hok : ∀ x ∈ R, IsN x.1 (nv x.1) ∧ 2 ≤ nv x.1) (h64 : R[k].1.size ≤ 64) (hA : IsN R[k].2.1 (nv R[k].2.1)) (hfs : ∀ f ∈ R[k].2.2.2.2, 0 ≤ f ∧ f.toNat < R.length)
    (hpr : ∀ q ∈ R[k].2.2.2.2.map (prm (R.map stp)), IsP q) :
    Calls Tryz.prog 17 #[.agg #[.slice a r c], .int .i64 (k : Int)] w fun e w' => e = .returned (.bool (crB (R.map stp) (stp R[k]))) ∧ Below w.heap.size w w' := by
  obtain ⟨i0, hi, hz0, hz1, hz2⟩ := info_parts info_natC
  have hPN := hok _ (List.getElem_mem hk)
  rw [hr] at hk
  obtain ⟨b, off, rfl, d0, d1, d2, hF⟩ := hR k (by omega)
  generalize R[k] = x at d0 d1 d2 hF hPN hn h64 hA hfs hpr ⊢
  obtain ⟨P, A, fa, fc, F⟩ := x
  simp only at d0 d1 d2 hF hPN hn h64 hA hfs hpr ⊢
  obtain ⟨hP, h2⟩ := hPN
  have hne : F ≠ [] := fun e => by rw [e] at hn; simp at hn; omega
  obtain ⟨m, hm⟩ : ∃ m, nv P = m := ⟨_, rfl⟩
  rw [hm] at hP h2
  obtain ⟨Q, hQe⟩ : ∃ Q, F.map (prm (R.map stp)) = Q := ⟨_, rfl⟩
  have hQl : Q.length = n := by rw [← hQe, List.length_map, hn]
  have e1 : crB (R.map stp) (stp (P, A, fa, fc, F)) = corB m (nv A) Q := by
    show crB (R.map stp) (P, A, F) = _
    unfold crB
    rw [if_neg hne, hm, hQe]
  rw [e1]
  have hat : ∀ k (hk : k < F.length) (hq : k < Q.length), ∃ j : Nat, F[k] = (j : Int) ∧ ∃ hj : j < R.length, Q[k] = nv R[j].1 := by
    intro k hk hq
    obtain ⟨f1, f2⟩ := hfs F[k] (List.getElem_mem hk)
    refine ⟨F[k].toNat, by omega, f2, ?_⟩
    rw [← prm_at (f := F[k]) (by omega) f2]
    subst hQe
    simp
  have hQ : ∀ q ∈ Q, 2 ≤ q ∧ blen q ≤ 128 := by
    intro q hq
    obtain ⟨k, hk, rfl⟩ := List.mem_iff_getElem.1 hq
    obtain ⟨j, _, hj, e⟩ := hat k (by omega) hk
    rw [e]
    obtain ⟨h1, h3⟩ := hok _ (List.getElem_mem hj)
    exact ⟨h3, h1.le⟩
  rw [hQe] at hpr
  have hb1024 : m < 2 ^ 1024 := by
    have h4 : (256 : Nat) ^ 128 = 2 ^ 1024 := by decide +kernel
    rw [← h4]; exact (blen_le_iff m 128).1 hP.le
  rw [← corR_eq hpr h2 hb1024]
  obtain ⟨D, hD⟩ : ∃ D, dedF [] Q = D := ⟨_, rfl⟩
  rw [hD]
  have hDQ : ∀ q ∈ D, 2 ≤ q ∧ blen q ≤ 128 := fun q hq => hQ q (by rw [← hD, dedF_mem] at hq; simpa using hq)
  have hDl : D.length ≤ n := by rw [← hD, ← hQl]; simpa using dedF_len Q []
  obtain ⟨V, hV⟩ : ∃ V, corR m (nv A) D = V := ⟨_, rfl⟩
  rw [hV]
  have hm1 : IsN (enc (m - 1)) (m - 1) := IsN.mk' (Nat.le_trans (blen_mono (by omega)) hP.le)
  have HSub := Lib.hid (fun w => refSub_any P (enc 1) m 1 w hP isC1 (by omega))
  have HAT := Lib.hid hat
  have HQ := Lib.hid hQ
  have HDQ := Lib.hid (And.intro hDQ hDl)
  have HOK := Lib.hid hok
  have HM := Lib.hid (And.intro hP h2)
  have HA := Lib.hid (And.intro hA h64)
  have HM1 := Lib.hid hm1
  have HV := Lib.hid hV
  have HD := Lib.hid hD
  have HN := Lib.hid (And.intro hn hQl)
  have q0 := (Below.refl _ w).alloc (Nat.le_refl _) (.cells #[.slice (some ⟨b, off, none⟩) r c] 24)
  replace d0 := cellB_keep d0 q0
  replace d1 := cellB_keep d1 q0
  replace d2 := cellB_keep d2 q0
  rw [hn] at d2
  have hct := CtB.new w (.slice (some ⟨b, off, none⟩) r c)
  have c0 := hct.c0
  have q1 := q0.alloc q0.size (.cells #[.string P, .string A, .slice fa n fc] 38)
  have HR := Lib.hid (hR.below q1 (Nat.le_refl _))
  have HF := Lib.hid (hF.below q1 (Nat.le_refl _))
  clear hne hQe hQl e1 hat hQ hok hP hA hm1 hV hn hR hF hfs h2 hm hpr hb1024 hD hDQ hDl h64
  have n1 : ¬ ((n : Int) = 0) := by omega
  have n2 : ((n : Int) == 0) = false := by rw [beq_eq_false_iff_ne]; exact n1
  go_enter Tryz.func17, Tryz.ntmps17
  go_wp2_with fail
  have hS := StB.new (P := .string P) (A := .string A) (v := .slice fa n fc) (w.alloc (.cells #[.slice (some ⟨b, off, none⟩) r c] 24))
  rw [show (w.alloc (.cells #[.slice (some ⟨b, off, none⟩) r c] 24)).heap.size = w.heap.size + 1 from by simp] at hS
  have hct2 := hct.below ((Below.refl _ _).alloc (Nat.le_refl _) (.cells #[.string P, .string A, .slice fa n fc] 38)) hct.lt
  clear d0 d1 d2 hct c0 q0
  generalize w.heap.size + 1 = q at hS ⊢
  obtain ⟨p, hp⟩ : ∃ p, w.heap.size = p := ⟨_, rfl⟩
  generalize World.alloc (World.alloc _ _) _ = w1 at hS q1 hct2 HR HF ⊢
  rw [hp] at hct2 ⊢
  have hb0 := Below.refl w1.heap.size w1
  go_loopw [8, 9] (fun v8 i wr => ∃ k : Nat, k ≤ n ∧ i = .int .i64 k ∧ wr.ownsRow w1.heap.size 30 1 v8 k ((Q.take k).map fun q => Value.string (enc q)) ∧ Below w1.heap.size w1 wr) (fun _ i _ => n - (intOf i).toNat)
  case atStart => exact ⟨0, by omega, rfl, World.ownsRow_nil _ _ _ _, hb0⟩
  case round =>
    obtain ⟨k, hk, rfl, hO, hB⟩ := hrel
    have hSr := hS.below hB hS.lt
    have hcr := hct2.below hB hct2.lt
    have c0 := hSr.c0
    have c1 := hSr.c1
    have c2 := hSr.c2
    have t0 := hcr.c0
    by_cases hlt : k < n
    · have hkF : k < F.length := by rw [HN.out.1]; exact hlt
      have hkQ : k < Q.length := by rw [HN.out.2]; exact hlt
      obtain ⟨j, hFj, hj, hQj⟩ := HAT.out k hkF hkQ
      obtain ⟨p1, p2⟩ := HOK.out _ (List.getElem_mem hj)
      rw [← hQj] at p1 p2
      have HC4 : ∀ w', Below w1.heap.size w1 w' → _ := fun w' hb => cells4 hct2 hS hkF HF.out hj HR.out hFj p1.eq hb
      obtain ⟨fb, foff, rfl, f0, f1, f2, f3⟩ := HC4 wr hB
      have hjr : j < r := by omega
      have HT : Hid ((Q.take (k + 1)) = Q.take k ++ [Q[k]]) := List.take_succ_eq_append_getElem hkQ
      generalize Q[k] = y at f3 HT p1 p2 HC4
      replace HC4 := Lib.hid HC4
      clear p1 p2 hFj hQj hkF hkQ
      go_wp2_with fail
      have k0 : (0 : Int) ≤ (k : Int) := by omega
      have k1 : (k : Int) < (n : Int) := by omega
      have k2 : (0 : Int) ≤ (j : Int) := by omega
      have k3 : (j : Int) < (r : Int) := by omega
-- {{C1
      refine wp_region_held_drew (S := (fun w' => w'.cell? ⟨p, 0, none⟩ = some (.slice (some ⟨b, off, none⟩) r c) ∧ w'.cell? ⟨q, 2, none⟩ = some (.slice (some ⟨fb, foff, none⟩) n fc) ∧ w'.cell? ⟨fb, foff + k, none⟩ = some (.int .i64 (j : Int)) ∧ w'.cell? ⟨b, off + j * 3, none⟩ = some (.string (enc y)))) (by kernel_rfl) ⟨f0, f1, f2, f3⟩ (fun hS0 => ?_)
      refine wpAnyH_take (i := 0) (oi := { dst := some 42, op := _, type := _, pos := _, after := _, guard := _ }) (v := u8) rfl (by kernel_rfl) (by kernel_rfl) (by kernel_rfl) (fun _ _ _ h => h) (Or.inl ⟨by rfl, fun w' hSw => (by (try dsimp only at hSw); go_simp)⟩) (by assumption) ?_
      try simp only [Act.put, List.setIfInBounds_toArray, List.set_cons_zero, List.set_cons_succ]
      refine wpAnyH_take (i := 1) (oi := { dst := some 43, op := _, type := _, pos := _, after := _, guard := _ }) (v := .pointer (some (⟨p, 0, none⟩ : Addr))) rfl (by kernel_rfl) (by kernel_rfl) (by kernel_rfl) (fun _ _ _ h => h) (Or.inl ⟨by rfl, fun w' hSw => (by (try dsimp only at hSw); go_simp)⟩) (by assumption) ?_
      try simp only [Act.put, List.setIfInBounds_toArray, List.set_cons_zero, List.set_cons_succ]
      refine wpAnyH_take (i := 2) (oi := { dst := some 44, op := _, type := _, pos := _, after := _, guard := _ }) (v := .slice (some ⟨b, off, none⟩) r c) rfl (by kernel_rfl) (by kernel_rfl) (by kernel_rfl) (fun _ _ _ h => h) (Or.inl ⟨by rfl, fun w' hSw => (by (try dsimp only at hSw); obtain ⟨g0, g1, g2, g3⟩ := hSw; go_simp)⟩) (by assumption) ?_
      try simp only [Act.put, List.setIfInBounds_toArray, List.set_cons_zero, List.set_cons_succ]
      refine wpAnyH_take (i := 3) (oi := { dst := some 45, op := _, type := _, pos := _, after := _, guard := _ }) (v := .pointer (some (⟨q, 2, none⟩ : Addr))) rfl (by kernel_rfl) (by kernel_rfl) (by kernel_rfl) (fun _ _ _ h => h) (Or.inl ⟨by rfl, fun w' hSw => (by (try dsimp only at hSw); go_simp)⟩) (by assumption) ?_
      try simp only [Act.put, List.setIfInBounds_toArray, List.set_cons_zero, List.set_cons_succ]
      refine wpAnyH_take (i := 4) (oi := { dst := some 46, op := _, type := _, pos := _, after := _, guard := _ }) (v := .slice (some ⟨fb, foff, none⟩) n fc) rfl (by kernel_rfl) (by kernel_rfl) (by kernel_rfl) (fun _ _ _ h => h) (Or.inl ⟨by rfl, fun w' hSw => (by (try dsimp only at hSw); obtain ⟨g0, g1, g2, g3⟩ := hSw; go_simp)⟩) (by assumption) ?_
      try simp only [Act.put, List.setIfInBounds_toArray, List.set_cons_zero, List.set_cons_succ]
      refine wpAnyH_take (i := 5) (oi := { dst := some 47, op := _, type := _, pos := _, after := _, guard := _ }) (v := .int .i64 (k : Int)) rfl (by kernel_rfl) (by kernel_rfl) (by kernel_rfl) (fun _ _ _ h => h) (Or.inl ⟨by rfl, fun w' hSw => (by (try dsimp only at hSw); go_simp)⟩) (by assumption) ?_
      try simp only [Act.put, List.setIfInBounds_toArray, List.set_cons_zero, List.set_cons_succ]
      refine wpAnyH_take (i := 6) (oi := { dst := some 48, op := _, type := _, pos := _, after := _, guard := _ }) (v := .pointer (some (⟨fb, foff + k, none⟩ : Addr))) rfl (by kernel_rfl) (by kernel_rfl) (by kernel_rfl) (fun _ _ _ h => h) (Or.inl ⟨by rfl, fun w' hSw => (by (try dsimp only at hSw); go_simp)⟩) (by assumption) ?_
      try simp only [Act.put, List.setIfInBounds_toArray, List.set_cons_zero, List.set_cons_succ]
      refine wpAnyH_take (i := 7) (oi := { dst := some 49, op := _, type := _, pos := _, after := _, guard := _ }) (v := .int .i64 (j : Int)) rfl (by kernel_rfl) (by kernel_rfl) (by kernel_rfl) (fun _ _ _ h => h) (Or.inl ⟨by rfl, fun w' hSw => (by (try dsimp only at hSw); obtain ⟨g0, g1, g2, g3⟩ := hSw; go_simp)⟩) (by assumption) ?_
      try simp only [Act.put, List.setIfInBounds_toArray, List.set_cons_zero, List.set_cons_succ]
      refine wpAnyH_take (i := 8) (oi := { dst := some 50, op := _, type := _, pos := _, after := _, guard := _ }) (v := .pointer (some (⟨b, off + j * 3, none⟩ : Addr))) rfl (by kernel_rfl) (by kernel_rfl) (by kernel_rfl) (fun _ _ _ h => h) (Or.inl ⟨by rfl, fun w' hSw => (by (try dsimp only at hSw); go_simp)⟩) (by assumption) ?_
      try simp only [Act.put, List.setIfInBounds_toArray, List.set_cons_zero, List.set_cons_succ]
      refine wpAnyH_take (i := 9) (oi := { dst := some 51, op := _, type := _, pos := _, after := _, guard := _ }) (v := .pointer (some (⟨b, off + j * 3, none⟩ : Addr))) rfl (by kernel_rfl) (by kernel_rfl) (by kernel_rfl) (fun _ _ _ h => h) (Or.inl ⟨by rfl, fun w' hSw => (by (try dsimp only at hSw); go_simp)⟩) (by assumption) ?_
      try simp only [Act.put, List.setIfInBounds_toArray, List.set_cons_zero, List.set_cons_succ]
      refine wpAnyH_take (i := 10) (oi := { dst := some 52, op := _, type := _, pos := _, after := _, guard := _ }) (v := .string (enc y)) rfl (by kernel_rfl) (by kernel_rfl) (by kernel_rfl) (fun _ _ _ h => h) (Or.inl ⟨by rfl, fun w' hSw => (by (try dsimp only at hSw); obtain ⟨g0, g1, g2, g3⟩ := hSw; go_simp)⟩) (by assumption) ?_
      try simp only [Act.put, List.setIfInBounds_toArray, List.set_cons_zero, List.set_cons_succ]
      have h2 : Below wr.heap.size wr wr.drew := (Below.refl _ wr).drew
      generalize wr.drew = w2 at h2 hS0 ⊢
      refine wpAnyH_ready (rs := [11]) (by kernel_rfl) (by simp) ?_
      refine AllReadyH.cons rfl (fun K hK => ?_) AllReadyH.nil
      rw [if_pos (by rfl)]
      go_simp
      obtain ⟨g0, g1, g2, g3⟩ := hS0
      have q2 := (Below.refl _ w2).alloc (Nat.le_refl _) (.cells #[.string (enc y)] 30)
      refine hK.out _ _ ⟨cellB_keep g0 q2, cellB_keep g1 q2, cellB_keep g2 q2, cellB_keep g3 q2⟩ (fun hS1 => ?_)
      clear hK g0 g1 g2 g3
      try simp only [Act.put, List.setIfInBounds_toArray, List.set_cons_zero, List.set_cons_succ]
      refine wpAnyH_ready (rs := [12]) (by kernel_rfl) (by simp) ?_
      refine AllReadyH.cons rfl (fun K hK => ?_) AllReadyH.nil
      rw [if_pos (by rfl)]
      refine wp_append_own _ (.tmp 42) (.tmp 53) 50 (by rfl) w1.heap.size 30 i0 (.string ⟨#[]⟩) 1 16 Tryz.underlying50 hi hz0 hz1 hz2 rfl (by decide) u8 k ((Q.take k).map fun p => Value.string (enc p)) (by rfl) ((ownbC hO h2).alloc _) ⟨w2.heap.size, 0, none⟩ 1 1 [.string (enc y)] (by rfl) rfl (one_cellC (new_cell0 _ _ _ _)) (by simp [Value.oneCell']) (by unfold maxLen; omega) (by omega) (by simp; have := hB.size; have := h2.size; omega) ?_
      intro v' w' hown' hgrow _
      have hR2 := ownbC hO h2
      have hB2 := hB.trans (h2.mono hB.size)
      have hB' := (hB2.alloc hB2.size (.cells #[.string (enc y)] 30)).grown hgrow (by simp; have := hB2.size; omega) (fun k e => (hR2.lt k e).1)
      obtain ⟨fb', foff', e', hS2⟩ := HC4.out w' hB'
      cases e'
      refine hK.out _ _ hS2 (fun hS3 => ?_)
      clear hK hS1 hS2
      try simp only [Act.put, List.setIfInBounds_toArray]
      refine wpAnyH_take (i := 13) (oi := { dst := some 8, op := _, type := _, pos := _, after := _, guard := _ }) (v := v') rfl (by kernel_rfl) (by kernel_rfl) (by kernel_rfl) (fun _ _ _ h => h) (Or.inl ⟨by rfl, fun w' hSw => (by (try dsimp only at hSw); go_simp)⟩) (by assumption) ?_
      try simp only [Act.put]
      refine wpAnyH_done (by kernel_rfl) ?_ _
-- }}C1
      go_wp2_with fail
      exact ⟨⟨k + 1, by omega, by go_num, by rw [HT.out, List.map_append]; exact hown', hB'⟩, by simp [intOf]; omega⟩
    · obtain rfl : k = n := by omega
      have htk : Q.take k = Q := List.take_of_length_le (by rw [HN.out.2]; omega)
      rw [htk] at hO
      have hSL : SL wr u8 (Q.map enc) := by
        refine SL.of_own (B := w1.heap.size) ?_
        rw [List.length_map, List.map_map, HN.out.2]
        exact hO
      have hDi := Lib.hid (r7different_any u8 Q wr hSL (by rw [HN.out.2]; exact hL))
      rw [HD.out] at hDi
      have hBr := q1.trans (hB.mono q1.size)
      clear hB hcr c0 c1 t0 hO htk hSL hS hct2 HR HF HAT HQ HD HOK
      go_wp2_with fail
      refine hDi.out.mono ?_; rintro e w4 ⟨⟨v4, rfl, hSL⟩, b4⟩
      have hB := hBr.trans (b4.mono hBr.size)
      have hS := hSr.below b4 hSr.lt
      have c0 := hS.c0
      have c1 := hS.c1
      clear hSr hBr b4 hDi c2
      have hb0 := Below.refl w4.heap.size w4
      obtain ⟨PF, G, hPF⟩ : ∃ PF G, rpF D (m - 1) 1 = (PF, G) := ⟨_, _, rfl⟩
      have hb1024 : m < 2 ^ 1024 := by
        have h4 : (256 : Nat) ^ 128 = 2 ^ 1024 := by decide +kernel
        rw [← h4]; exact (blen_le_iff m 128).1 HM.out.1.le
      have hPl : PF ≤ m := by
        have := rpF_le D (m - 1) 1 (fun q hq => (HDQ.out.1 q hq).1) (by have := HM.out.2; omega) (by omega)
        rw [hPF] at this
        simp only at this
        omega
      have IPF : IsN (enc PF) PF := IsN.mk' (Nat.le_trans (blen_mono hPl) HM.out.1.le)
      have HPa := (fun W hv => r7part_any (enc (m - 1)) (m - 1) v4 D W HM1.out (by have := HM.out.2; omega) hv HDQ.out.1 (by have := HDQ.out.2; omega))
      simp only [hPF] at HPa
      have HCo := (fun W => r7covers_any P (enc PF) m PF W HM.out.1 IPF)
      have HWo := (fun W hv => r7works_any P A m (nv A) v4 D W HM.out.1 HM.out.2 HA.out.2 HA.out.1 hv HDQ.out.1 (by have := HDQ.out.2; omega))
      have hV := HV.out
      unfold corR at hV
      rw [hPF] at hV
      simp only at hV
      obtain ⟨E, hE⟩ : ∃ E, decide (m < PF * PF) = E := ⟨_, rfl⟩
      obtain ⟨X, hX⟩ : ∃ X, provB m (nv A) D = X := ⟨_, rfl⟩
      simp only [hE] at HCo hV
      simp only [hX] at HWo hV
      have HPa := Lib.hid HPa
      have HCo := Lib.hid HCo
      have HWo := Lib.hid HWo
      have HSL := Lib.hid hSL
      clear hPF hb1024 hPl IPF hE hX HV HM HA HM1 HDQ HN hSL
      go_wp2_with fail
      go_cut [10] from 11 (fun v10 wc => v10 = .string (enc (m - 1)) ∧ StB wc q (.string P) (.string A) (.slice fa k fc) ∧ Below w4.heap.size w4 wc)
      case first =>
        go_region_held3 (fun w' => w'.cell? ⟨q, 0, none⟩ = some (.string P) ∧ w'.cell? ⟨q, 1, none⟩ = some (.string A) ∧ StB w' q (.string P) (.string A) (.slice fa k fc) ∧ Below w4.heap.size w4 w')
          (first | exact ⟨c0, c1, hS, hb0.drew⟩ | assumption | (refine keepF ?_ bn; assumption))
          (first
            | (go_at_call 29; (with_reducible refine (sOf1 _).mono ?_); rintro e wn ⟨rfl, bn⟩)
            | (go_at_call 38; (with_reducible refine (HSub.out _).mono ?_); rintro e wn ⟨rfl, bn⟩))
        all_goals (go_split_ands; go_wp2_with fail; go_meet; exact ⟨rfl, by assumption, by assumption⟩)
      case rest =>
        clear hS c0 c1 hb0
        obtain ⟨rfl, hS, hbc⟩ := hcut
        have hB1 := hB.trans (hbc.mono hB.size)
        have hSL1 := HSL.out.below hbc
        clear hbc hB
        go_wp2_with fail
        refine (HPa.out _ hSL1).mono ?_; rintro e w6 ⟨rfl, b6⟩
        have hB2 := hB1.trans (b6.mono hB1.size)
        have hS2 := hS.below b6 hS.lt
        have hSL2 := hSL1.below b6
        have c0 := hS2.c0
        have c1 := hS2.c1
        clear hB1 hS hSL1 b6
        cases G
        · obtain rfl : V = false := hV.symm
          go_wp2_with fail
          go_ret
          exact ⟨rfl, hB2⟩
        · cases E
          · obtain rfl : V = false := hV.symm
            go_wp2_with fail
            refine (HCo.out _).mono ?_; rintro e w7 ⟨rfl, b7⟩
            have hB3 := hB2.trans (b7.mono hB2.size)
            go_wp2_with fail
            go_ret
            exact ⟨rfl, hB3⟩
          · obtain rfl : V = X := hV.symm
            go_wp2_with fail
            refine (HCo.out _).mono ?_; rintro e w7 ⟨rfl, b7⟩
            have hB3 := hB2.trans (b7.mono hB2.size)
            have hSL3 := hSL2.below b7
            have c0 := cellB_keep c0 b7
            have c1 := cellB_keep c1 b7
            go_wp2_with fail
            refine (HWo.out _ hSL3).mono ?_; rintro e w8 ⟨rfl, b8⟩
            have hB4 := hB3.trans (b8.mono hB3.size)
            go_wp2_with fail
            go_ret
            exact ⟨rfl, hB4⟩
theorem r7cor_any (a : Option Addr) (r c k : Nat) (R : List StR) (w : World) (hR : CS w a R) (hr : R.length = r) (hk : k < R.length) (hbig : R.length ≤ 256) (hw : wfAll (R.map stp) = true) (h64 : ∀ x ∈ R, x.1.size ≤ 64)
    (hprev : ∀ j (hj : j < R.length), j < k → crB (R.map stp) (stp R[j]) = true) :
    Calls Tryz.prog 17 #[.agg #[.slice a r c], .int .i64 (k : Int)] w fun e w' => e = .returned (.bool (crB (R.map stp) (stp R[k]))) ∧ Below w.heap.size w w' := by
  have hp := wfAll_at hw hk
  have hok := wfParts hw
  have hfp := fac_prime (L := R.map stp) (k := k) hw (by simpa using hk) (fun j hj hjk => by
    have hj' : j < R.length := by simpa using hj
    rw [List.getElem_map]
    exact hprev j hj' hjk)
  rw [List.getElem_map] at hfp
  by_cases h0 : R[k].2.2.2.2 = []
  · exact r7correct0_any a r c k R w hR hr hk (by unfold maxLen; omega) h0 (hok _ (List.getElem_mem hk)).1
  · obtain ⟨x, hx⟩ : ∃ x, R[k] = x := ⟨_, rfl⟩
    obtain ⟨P, A, fa, fc, F⟩ := x
    have hp2 := hp
    rw [hx] at hp2 h0
    obtain ⟨h1, h2, h3⟩ := wfB_parts hp2
    obtain ⟨h4, h5⟩ := h3 h0
    have hlen : F.length ≤ 100000 := by
      rcases asc_len h4 with e | h
      · exact absurd e h0
      · omega
    refine r7correct1_any a r c k F.length R w hR hr hk hbig (by rw [hx]) (Nat.pos_of_ne_zero fun e => h0 (List.length_eq_zero_iff.1 e)) hlen hok (h64 _ (List.getElem_mem hk)) (by rw [hx]; exact h5) (fun f hf => ?_) hfp
    rw [hx] at hf
    have := asc_mem h4 f hf
    exact ⟨by omega, by omega⟩
set_option maxHeartbeats 8000000 in
theorem r7Check_any (a : Option Addr) (r c : Nat) (R : List StR) (w : World) (hR : CS w a R) (hr : R.length = r) (hbig : R.length ≤ maxLen) (hok : ∀ x ∈ R, x.ok) (h64 : ∀ x ∈ R, x.1.size ≤ 64) :
    Calls Tryz.prog 8 #[.agg #[.slice a r c]] w fun e w' => e = .returned (.int .i64 (ckC (R.map stp))) ∧ Below w.heap.size w w' := by
  have hS := CtB.new w (.slice a r c)
  have hb := (Below.refl _ w).alloc (Nat.le_refl _) (.cells #[.slice a r c] 24)
  obtain ⟨E, hE⟩ : ∃ E, ckC (R.map stp) = E := ⟨_, rfl⟩
  rw [hE]
  have HE := Lib.hid hE
  have HR := Lib.hid (hR.below hb (Nat.le_refl _))
  have HOK := Lib.hid hok
  have H64 := Lib.hid h64
  have HN := Lib.hid hr
  have hbig2 : r ≤ maxLen := by rw [← hr]; exact hbig
  have HBIG := Lib.hid hbig
  unfold maxLen at hbig2
  clear hE hR hok hr hbig h64
  go_enter Tryz.func8, Tryz.ntmps8
  go_wp2_with fail
  generalize World.alloc _ _ = w0 at hS hb HR ⊢
  have c0 := hS.c0
  go_loopw [3] (fun i wr => ∃ k : Nat, k ≤ r ∧ i = .int .i64 k ∧ Hid (∀ j (hj : j < R.length), j < k → wfB j (stp R[j]) = true) ∧ Below w0.heap.size w0 wr) (fun i _ => r - (intOf i).toNat)
  case atStart => exact ⟨0, by omega, rfl, Lib.hid (fun j hj h => by omega), Below.refl _ _⟩
  case round =>
    obtain ⟨k, hk, rfl, hW, hB⟩ := hrel
    have c1 := (hS.below hB hS.lt).c0
    have hBw := hb.trans (hB.mono hb.size)
    by_cases hlt : k < r
    · have hkR : k < R.length := by rw [HN.out]; exact hlt
      have hRq := HR.out.below hB (Nat.le_refl _)
      obtain ⟨b, off, rfl, x0, x1, x2, hF⟩ := hRq k hkR
      have hxo := HOK.out _ (List.getElem_mem hkR)
      have HW3 : wfB k (stp R[k]) = false → E = 3 := fun hv => by
        rw [← HE.out]; unfold ckC; rw [wfAll_false hkR hv]; rfl
      have HW2 : wfB k (stp R[k]) = true → (∀ j (hj : j < R.length), j < k + 1 → wfB j (stp R[j]) = true) := fun hv j hj h => by
        rcases Nat.lt_or_ge j k with h' | h'
        · exact hW.out j hj h'
        · obtain rfl : j = k := by omega
          exact hv
      generalize R[k] = x at x0 x1 x2 hF hxo HW3 HW2
      obtain ⟨P, A, fa, fc, F⟩ := x
      simp only at x0 x1 x2 hF
      have HC := (fun w (h : FS w fa F) => r7formed_any P A fa fc F.length k F w h rfl hxo.2.2.1 (by unfold maxLen; omega))
      have hst : stp (P, A, fa, fc, F) = (P, A, F) := rfl
      rw [hst] at HW3 HW2
      obtain ⟨W, hWW⟩ : ∃ W, wfB k (P, A, F) = W := ⟨_, rfl⟩
      simp only [hWW] at HC HW3 HW2
      obtain ⟨n, hn⟩ : ∃ n, F.length = n := ⟨_, rfl⟩
      rw [hn] at x2
      simp only [hn] at HC
      have HC := Lib.hid HC
      have HWS := Lib.hid (And.intro HW3 HW2)
      have HFF := Lib.hid hF
      clear c0 hW HW3 HW2 hWW hn hst hF hxo hRq
      cases W
      · obtain rfl : E = 3 := HWS.out.1 rfl
        go_wp2_with fail
        refine (HC.out _ HFF.out).mono ?_; rintro e w2 ⟨rfl, b2⟩
        have hB2 := hBw.trans (b2.mono hBw.size)
        go_wp2_with fail
        go_ret
        exact ⟨rfl, hB2⟩
      · have HW4 := Lib.hid (HWS.out.2 rfl)
        go_wp2_with fail
        refine (HC.out _ HFF.out).mono ?_; rintro e w2 ⟨rfl, b2⟩
        have hB2 := hB.trans (b2.mono hB.size)
        go_wp2_with fail
        exact ⟨⟨k + 1, by omega, by go_num, HW4, hB2⟩, by simp [intOf]; omega⟩
    · obtain rfl : k = r := by omega
      have hall : wfAll (R.map stp) = true := wfAll_true fun j hj => hW.out j hj (by have := HN.out; omega)
      have hE2 := HE.out
      unfold ckC at hE2
      rw [if_pos hall, List.length_map, HN.out] at hE2
      have hS1 := hS.below hB hS.lt
      have HR1 := Lib.hid (HR.out.below hB (Nat.le_refl _))
      clear HE hW c0 HR
      by_cases h0 : k = 0
      · subst h0
        obtain rfl : E = 3 := hE2.symm
        go_wp2_with fail
        go_ret
        exact ⟨rfl, hBw⟩
      · have n1 : ¬ ((k : Int) = 0) := by omega
        have n2 : ((k : Int) == 0) = false := by rw [beq_eq_false_iff_ne]; exact n1
        rw [if_neg h0] at hE2
        by_cases h256 : 256 < k
        · rw [if_pos h256] at hE2
          obtain rfl : E = 6 := hE2.symm
          have d1 : decide ((256 : Int) < (k : Int)) = true := decide_eq_true (by omega)
          go_wp2_with fail
          go_ret
          exact ⟨rfl, hBw⟩
        · rw [if_neg h256] at hE2
          have d1 : decide ((256 : Int) < (k : Int)) = false := decide_eq_false (by omega)
          have d2 : ¬ (256 : Int) < (k : Int) := by omega
          have HCO := Lib.hid (fun j (hj : j < R.length) w (h : CS w a R) hprev => r7cor_any a k c j R w h HN.out hj (by have := HN.out; omega) hall H64.out hprev)
          have HE2 := Lib.hid hE2
          clear hE2 hall
          go_wp2_with fail
          go_loopw [4] (fun i wq => ∃ l : Nat, l ≤ k ∧ i = .int .i64 l ∧ Hid (∀ j (hj : j < R.length), j < l → crB (R.map stp) (stp R[j]) = true) ∧ Below wr.heap.size wr wq) (fun i _ => k - (intOf i).toNat)
          case atStart => exact ⟨0, by omega, rfl, Lib.hid (fun j hj h => by omega), Below.refl _ _⟩
          case round =>
            clear c1 d1 d2 n1 n2
            obtain ⟨l, hl, rfl, hW, hBq⟩ := hrel
            have c1 := (hS1.below hBq hS1.lt).c0
            have hBz := hBw.trans (hBq.mono hBw.size)
            by_cases hlt2 : l < k
            · have hlR : l < R.length := by rw [HN.out]; exact hlt2
              have HCC := HCO.out l hlR wr (HR1.out.below hBq (Nat.le_refl _)) hW.out
              have hbad : crB (R.map stp) (stp R[l]) = false → E = 12 := fun h => by
                rw [← HE2.out, if_neg]
                rw [Bool.not_eq_true, List.all_eq_false]
                exact ⟨stp R[l], List.mem_map.2 ⟨_, List.getElem_mem hlR, rfl⟩, by rw [h]; simp⟩
              have hgood : crB (R.map stp) (stp R[l]) = true → (∀ j (hj : j < R.length), j < l + 1 → crB (R.map stp) (stp R[j]) = true) := fun h j hj hjl => by
                rcases Nat.lt_or_ge j l with h' | h'
                · exact hW.out j hj h'
                · obtain rfl : j = l := by omega
                  exact h
              obtain ⟨D, hD⟩ : ∃ D, crB (R.map stp) (stp R[l]) = D := ⟨_, rfl⟩
              rw [hD] at HCC hbad hgood
              have HCC := Lib.hid HCC
              have HGB := Lib.hid (And.intro hbad hgood)
              clear hbad hgood hD hW
              cases D
              · obtain rfl : E = 12 := HGB.out.1 rfl
                go_wp2_with fail
                refine HCC.out.mono ?_; rintro e w4 ⟨rfl, b4⟩
                have hB4 := hBz.trans (b4.mono hBz.size)
                go_wp2_with fail
                go_ret
                exact ⟨rfl, hB4⟩
              · have HG := Lib.hid (HGB.out.2 rfl)
                go_wp2_with fail
                refine HCC.out.mono ?_; rintro e w4 ⟨rfl, b4⟩
                have hB4 := hBq.trans (b4.mono hBq.size)
                go_wp2_with fail
                exact ⟨⟨l + 1, by omega, by go_num, HG, hB4⟩, by simp [intOf]; omega⟩
            · obtain rfl : l = k := by omega
              have hE0 : E = 0 := by
                rw [← HE2.out, if_pos]
                rw [List.all_eq_true]
                intro x hx
                obtain ⟨y, hy, rfl⟩ := List.mem_map.1 hx
                obtain ⟨j, hj, rfl⟩ := List.mem_iff_getElem.1 hy
                exact hW.out j hj (by have := HN.out; omega)
              subst hE0
              go_wp2_with fail
              go_ret
              exact ⟨rfl, hBz⟩
set_option maxHeartbeats 4000000 in
theorem ceFew2_any (a : Option Addr) (r c : Nat) (R : List StR) (w : World) (hR : CS w a R) (hr : R.length = r) (hbig : R.length ≤ maxLen) (hok : ∀ x ∈ R, x.ok) :
    Calls Tryz.prog 5 #[.agg #[.slice a r c]] w fun e w' => (∃ V, e = .returned (.bool V) ∧ (V = true → r ≤ 24 ∧ ∀ x ∈ R, x.1.size ≤ 8)) ∧ Below w.heap.size w w' := by
  have hS := CtB.new w (.slice a r c)
  have hb := (Below.refl _ w).alloc (Nat.le_refl _) (.cells #[.slice a r c] 24)
  have HR := Lib.hid (hR.below hb (Nat.le_refl _))
  have HOK := Lib.hid hok
  have HN := Lib.hid hr
  have hbig2 : r ≤ maxLen := by rw [← hr]; exact hbig
  unfold maxLen at hbig2
  clear hR hok hr hbig
  go_enter Tryz.func5, Tryz.ntmps5
  go_wp2_with fail
  generalize World.alloc _ _ = w0 at hS hb HR ⊢
  go_loopw [3] (fun i wr => ∃ k : Nat, k ≤ 40 ∧ k ≤ r ∧ i = .int .i64 k ∧ Hid (∀ j (hj : j < R.length), j < k → R[j].1.size ≤ 8) ∧ Below w0.heap.size w0 wr) (fun i _ => 40 - (intOf i).toNat)
  case atStart => exact ⟨0, by omega, by omega, rfl, Lib.hid (fun j hj h => by omega), Below.refl _ _⟩
  case round =>
    obtain ⟨k, hk, hkr, rfl, hQ, hB⟩ := hrel
    have c0 := (hS.below hB hS.lt).c0
    have hBw := hb.trans (hB.mono hb.size)
    by_cases hlt : k < r ∧ k < 40
    · obtain ⟨h1, h2⟩ := hlt
      have hkR : k < R.length := by rw [HN.out]; exact h1
      have d1 : decide ((k : Int) < (r : Int)) = true := decide_eq_true (by omega)
      have d2 : decide ((k : Int) < 40) = true := decide_eq_true (by omega)
      obtain ⟨b, off, rfl, x0, x1, x2, _⟩ := (HR.out.below hB (Nat.le_refl _)) k hkR
      obtain ⟨o0, o1, o2, _⟩ := HOK.out _ (List.getElem_mem hkR)
      have hst : R[k].1.size ≤ 8 → ∀ j (hj : j < R.length), j < k + 1 → R[j].1.size ≤ 8 := fun h j hj hjk => by
        rcases Nat.lt_or_ge j k with h' | h'
        · exact hQ.out j hj h'
        · obtain rfl : j = k := by omega
          exact h
      generalize R[k] = x at x0 x1 x2 o0 o1 o2 hst
      obtain ⟨P, A, fa, fc, F⟩ := x
      simp only at x0 x1 x2 o0 o1 o2
      obtain ⟨n, hn⟩ : ∃ n, F.length = n := ⟨_, rfl⟩
      obtain ⟨ps, hps⟩ : ∃ n, P.size = n := ⟨_, rfl⟩
      obtain ⟨az, haz⟩ : ∃ n, A.size = n := ⟨_, rfl⟩
      rw [hn] at x2 o2
      simp only [hps] at o0 hst
      rw [haz] at o1
      unfold maxLen at o0 o1 o2
      have hSn := StB.new (P := .string P) (A := .string A) (v := .slice fa n fc) wr
      have q0 := hBw.alloc hBw.size (.cells #[.string P, .string A, .slice fa n fc] 38)
      have q1 := hB.alloc hB.size (.cells #[.string P, .string A, .slice fa n fc] 38)
      clear hn hSn hQ
      by_cases t1 : 8 < ps
      · have e1 : decide ((8 : Int) < (ps : Int)) = true := decide_eq_true (by omega)
        go_wp2_with fail
        go_ret
        exact ⟨⟨_, rfl, fun h => by cases h⟩, q0⟩
      · have e1 : decide ((8 : Int) < (ps : Int)) = false := decide_eq_false (by omega)
        by_cases t2 : 9 < az
        · have e2 : decide ((9 : Int) < (az : Int)) = true := decide_eq_true (by omega)
          go_wp2_with fail
          go_ret
          exact ⟨⟨_, rfl, fun h => by cases h⟩, q0⟩
        · have e2 : decide ((9 : Int) < (az : Int)) = false := decide_eq_false (by omega)
          by_cases t3 : 20 < n
          · have e3 : decide ((20 : Int) < (n : Int)) = true := decide_eq_true (by omega)
            go_wp2_with fail
            go_ret
            exact ⟨⟨_, rfl, fun h => by cases h⟩, q0⟩
          · have e3 : decide ((20 : Int) < (n : Int)) = false := decide_eq_false (by omega)
            have HST := Lib.hid (hst (by omega))
            clear hst
            go_wp2_with fail
            exact ⟨⟨k + 1, by omega, by omega, by go_num, HST, q1⟩, by simp [intOf]; omega⟩
    · have hV : ∀ V : Bool, V = decide ((r : Int) ≤ 24) → (V = true → r ≤ 24 ∧ ∀ x ∈ R, x.1.size ≤ 8) := fun V h h2 => by
        rw [h] at h2
        have h3 := of_decide_eq_true h2
        refine ⟨by omega, fun x hx => ?_⟩
        obtain ⟨j, hj, rfl⟩ := List.mem_iff_getElem.1 hx
        exact hQ.out j hj (by have := HN.out; omega)
      obtain ⟨V, hVV⟩ : ∃ V, decide ((r : Int) ≤ 24) = V := ⟨_, rfl⟩
      have HV := Lib.hid (hV V hVV.symm)
      clear hV
      by_cases h1 : k < r
      · have d1 : decide ((k : Int) < (r : Int)) = true := decide_eq_true (by omega)
        have d2 : decide ((k : Int) < 40) = false := decide_eq_false (by omega)
        go_wp2_with fail
        go_ret
        exact ⟨⟨_, rfl, HV.out⟩, hBw⟩
      · have d1 : decide ((k : Int) < (r : Int)) = false := decide_eq_false (by omega)
        go_wp2_with fail
        go_ret
        exact ⟨⟨_, rfl, HV.out⟩, hBw⟩
theorem r7Prime_any (a : Option Addr) (r c : Nat) (R : List StR) (w : World) (hR : CS w a R) (hr : R.length = r) (hbig : R.length ≤ maxLen) :
    Calls Tryz.prog 10 #[.agg #[.slice a r c]] w fun e w' => e = .returned (.string (prC (R.map stp))) ∧ Below w.heap.size w w' := by
  have hS := CtB.new w (.slice a r c)
  have hb := (Below.refl _ w).alloc (Nat.le_refl _) (.cells #[.slice a r c] 24)
  have hR0 := hR.below hb (Nat.le_refl _)
  by_cases h0 : r = 0
  · subst h0
    obtain rfl : R = [] := List.length_eq_zero_iff.1 hr
    rw [show prC (([] : List StR).map stp) = ⟨#[]⟩ from rfl]
    clear hR hR0
    go_enter Tryz.func10, Tryz.ntmps10
    go_wp2_with fail
    generalize World.alloc _ _ = w0 at hS hb ⊢
    have c0 := hS.c0
    go_wp2_with fail
    go_ret
    exact ⟨rfl, hb⟩
  · have hl : R.length - 1 < R.length := by omega
    rw [prC_last (by omega)]
    obtain ⟨b, off, rfl, x0, _, _, _⟩ := hR0 (R.length - 1) hl
    generalize (R[R.length - 1]).1 = P at x0 ⊢
    rw [hr] at hbig x0
    unfold maxLen at hbig
    have n1 : ¬ ((r : Int) = 0) := by omega
    have n2 : ((r : Int) == 0) = false := by rw [beq_eq_false_iff_ne]; exact n1
    have o1 : IntKind.i64.wrap ((r : Int) - 1) = ((r - 1 : Nat) : Int) := by rw [wraps_i64 _ (by omega) (by omega)]; omega
    obtain ⟨j, hj⟩ : ∃ j, r - 1 = j := ⟨_, rfl⟩
    have hjr : j < r := by omega
    rw [hj] at x0 o1
    clear hR hR0
    go_enter Tryz.func10, Tryz.ntmps10
    go_wp2_with fail
    generalize World.alloc _ _ = w0 at hS hb x0 ⊢
    have c0 := hS.c0
    go_wp2_with fail
    go_ret
    exact ⟨rfl, hb⟩
theorem keepW {w w1 w2 : World} {q r c : Nat} {a : Option Addr} {R : List StR} (h : w1.cell? ⟨q, 0, none⟩ = some (.slice a r c) ∧ Tab w1 ∧ CS w1 a R ∧ Below w.heap.size w w1) (b : Below w1.heap.size w1 w2) :
    w2.cell? ⟨q, 0, none⟩ = some (.slice a r c) ∧ Tab w2 ∧ CS w2 a R ∧ Below w.heap.size w w2 :=
  ⟨cellB_keep h.1 b, h.2.1.below b, h.2.2.1.below b (Nat.le_refl _), h.2.2.2.trans (b.mono h.2.2.2.size)⟩
set_option maxHeartbeats 4000000 in
theorem checks_walk (a : Option Addr) (r c : Nat) (R : List StR) (w : World) (hT : Tab w) (hR : CS w a R) (hr : R.length = r) (hbig : R.length ≤ maxLen) (hok : ∀ x ∈ R, x.ok) :
    Calls Tryz.prog 3 #[.agg #[.slice a r c]] w fun e w' => e = .returned (.bool true) ∧ Below w.heap.size w w' := by
  have HAw := Lib.hid (fun w h => awakeC w h)
  have hS := CtB.new w (.slice a r c)
  have hb := (Below.refl _ w).alloc (Nat.le_refl _) (.cells #[.slice a r c] 24)
  have HR := Lib.hid (hR.below hb (Nat.le_refl _))
  have HT := Lib.hid (hT.below hb)
  have HFw := Lib.hid (fun w h => ceFew2_any a r c R w h hr hbig hok)
  have HCk := (fun w hT h => ceCheck_any a r c R w hT h hr hbig hok)
  have HPr := (fun w h => cePrime_any a r c R w h hr hbig)
  have HRk := (fun w h hp => r7Check_any a r c R w h hr hbig hok hp)
  have HRp := (fun w h => r7Prime_any a r c R w h hr hbig)
  obtain ⟨E, hE⟩ : ∃ E, ckC (R.map stp) = E := ⟨_, rfl⟩
  obtain ⟨N, hN⟩ : ∃ N, prC (R.map stp) = N := ⟨_, rfl⟩
  simp only [hE] at HCk HRk
  simp only [hN] at HPr HRp
  have HCk := Lib.hid HCk
  have HPr := Lib.hid HPr
  have HRk := Lib.hid HRk
  have HRp := Lib.hid HRp
  have ee : (E == E) = true := by simp
  have en : (N.toList == N.toList) = true := by simp
  clear hT hR hr hbig hok hE hN
  go_enter Tryz.func3, Tryz.ntmps3
  go_wp2_with fail
  generalize World.alloc _ _ = w0 at hS hb HR HT ⊢
  generalize w.heap.size = q at hS ⊢
  have c0 := hS.c0
  go_wp2_with fail
  refine (HFw.out _ HR.out).mono ?_; rintro e w1 ⟨⟨V, rfl, hV⟩, b1⟩
  have c1 := (hS.below b1 hS.lt).c0
  have hb2 := hb.trans (b1.mono hb.size)
  have HT1 := HT.out.below b1
  have HR1 := HR.out.below b1 (Nat.le_refl _)
  clear c0 HFw
  cases V
  · clear hV
    go_wp2_with fail
    refine (HAw.out _ HT1).mono ?_; rintro e w2 ⟨rfl, b2⟩
    have hb3 := hb2.trans (b2.mono hb2.size)
    go_wp2_with fail
    go_ret
    exact ⟨rfl, hb3⟩
  · have HRk2 := Lib.hid (fun w h => HRk.out w h (fun x hx => Nat.le_trans ((hV rfl).2 x hx) (by omega)))
    clear hV HRk
    have hb0 := Below.refl w1.heap.size w1
    go_wp2_with fail
    go_region_held3 (fun w' => w'.cell? ⟨q, 0, none⟩ = some (.slice a r c) ∧ Tab w' ∧ CS w' a R ∧ Below w1.heap.size w1 w')
      (first | exact ⟨c1, HT1, HR1, hb0.drew⟩ | assumption | (refine keepW ?_ bn; assumption))
      (first
        | (go_at_call 6; (with_reducible refine (HAw.out _ (by go_split_ands; assumption)).mono ?_); rintro e wn ⟨rfl, bn⟩)
        | (go_at_call 7; (with_reducible refine (HCk.out _ (by go_split_ands; assumption) (by go_split_ands; assumption)).mono ?_); rintro e wn ⟨rfl, bn⟩)
        | (go_at_call 8; (with_reducible refine (HRk2.out _ (by go_split_ands; assumption)).mono ?_); rintro e wn ⟨rfl, bn⟩)
        | (go_at_call 9; (with_reducible refine (HPr.out _ (by go_split_ands; assumption)).mono ?_); rintro e wn ⟨rfl, bn⟩)
        | (go_at_call 10; (with_reducible refine (HRp.out _ (by go_split_ands; assumption)).mono ?_); rintro e wn ⟨rfl, bn⟩))
    all_goals (go_split_ands; have hq := hb2.trans ((by assumption : Below w1.heap.size w1 _).mono hb2.size); go_wp2_with fail; go_ret; exact ⟨rfl, hq⟩)
end Go.Proofs.YtjminjliomffaaaGreatDoor
