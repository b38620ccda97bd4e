import Derived.Test.YtdhhbjmkdmbffaaGreatDoorBld
import Derived.Test.YtdhhbjmkdmbffaaGreatDoorLnG
import Derived.BigRegion
import Derived.RegionTactic
import Derived.Test.YtdhhbjmkdmbffaaGreatDoorNatG
import Derived.Test.YtdhhbjmkdmbffaaGreatDoorNatC
import Derived.Deep.RegionHeld3
import Derived.Test.YtdhhbjmkdmbffaaGreatDoorR2
/- natural.Text of a number below 100. -/
namespace Go.Proofs.YtdhhbjmkdmbffaaGreatDoor
open Go.RowKit Num
open Go.Lib (byteCells byteCells_length byteCells_append)
set_option maxRecDepth 20000
set_option linter.unusedVariables false
/-- the digits of a number below 100 -/
def dec2 (n : Nat) : List UInt8 := if n < 10 then [UInt8.ofNat (48 + n)] else [UInt8.ofNat (48 + n / 10), UInt8.ofNat (48 + n % 10)]
/-- digit i -/
def dgt (n i : Nat) : UInt8 := UInt8.ofNat (48 + n / 10 ^ i % 10)
def dgL (n k : Nat) : List UInt8 := (List.range k).map (dgt n)
theorem dgL_succ (n k : Nat) : dgL n (k + 1) = dgL n k ++ [dgt n k] := by unfold dgL; rw [List.range_succ, List.map_append]; rfl
theorem dgL_len (n k : Nat) : (dgL n k).length = k := by simp [dgL]
theorem dgt_toNat (n i : Nat) : ((dgt n i).toNat : Int) = 48 + ((n / 10 ^ i % 10 : Nat) : Int) := by
  unfold dgt
  rw [UInt8.toNat_ofNat']
  have : n / 10 ^ i % 10 < 10 := Nat.mod_lt _ (by omega)
  omega
theorem swap_cells {W : World} {g : Nat} {x y a b : Value} (h0 : W.cell? ⟨g, 0, none⟩ = some a) (h1 : W.cell? ⟨g, 1, none⟩ = some b) :
    ((W.setCell ⟨g, 0, none⟩ x).setCell ⟨g, 1, none⟩ y).cell? ⟨g, 0, none⟩ = some x ∧ ((W.setCell ⟨g, 0, none⟩ x).setCell ⟨g, 1, none⟩ y).cell? ⟨g, 1, none⟩ = some y := by
  constructor <;> simp [h0, h1, go_sem]
theorem conv_str (w : World) (b o c : Nat) (r : List UInt8) (h : BytesAt w b o r) :
    (convert 88 9 (.slice (some ⟨b, o, none⟩) r.length c)).run Tryz.prog w = .ok (.string (str r)) w :=
  run_convert_bytes_back w 88 9 5 ⟨b, o, none⟩ c r Tryz.underlying88 Tryz.underlying5 Tryz.underlying9 (by
    intro j hj
    rw [show (⟨b, o, none⟩ : Addr).add j = ⟨b, o + j, none⟩ from by unfold Addr.add; simp]
    exact h j hj)
theorem ntext_zero (w : World) : Calls Tryz.prog 126 #[.string ⟨#[]⟩] w fun e w' => e = .returned (.tuple #[.string (str (dec2 0)), .int .i64 0]) ∧ Below w.heap.size w w' := by
  have HR := Lib.hid (show str (dec2 0) = ⟨#[48]⟩ by decide +kernel)
  have hv := Lib.hid (show validB ⟨#[]⟩ = true by decide)
  go_enter Tryz.func126, Tryz.ntmps126
  go_wp2_with fail
  refine (Valid_any _ _).mono ?_; rw [hv.out]; rintro e w1 ⟨rfl, rfl⟩
  go_wp2_with fail
  go_ret2
  exact ⟨by rw [HR.out]; rfl, Below.refl _ _⟩
set_option maxHeartbeats 8000000 in
theorem ntext_any (n : Nat) (w : World) (h1 : 1 ≤ n) (h2 : n < 100) : Calls Tryz.prog 126 #[.string (enc n)] w fun e w' => e = .returned (.tuple #[.string (str (dec2 n)), .int .i64 0]) ∧ Below w.heap.size w w' := by
  have hN : IsN (enc n) n := IsN.mk' ((blen_le_iff n 128).2 (Nat.lt_of_lt_of_le (show n < 256 ^ 1 by omega) (Nat.pow_le_pow_right (by omega) (by omega))))
  have h8 : blen n ≤ 8 := (blen_le_iff n 8).2 (by omega)
  have hM : IsN (enc 1000000000) 1000000000 := IsN.mk' (by decide +kernel)
  have HOF := Lib.hid (fun w => Of_any 1000000000 w (by omega))
  have HDV := fun w => divided_any (enc n) (enc 1000000000) n 1000000000 w hN hM (by omega)
  rw [show n / 1000000000 = 0 by omega, show n % 1000000000 = n by omega, show enc 0 = ⟨#[]⟩ from rfl] at HDV
  have HDV := Lib.hid HDV
  have HSM := Lib.hid (fun w => Small_any (enc n) n w hN)
  rw [sm_short h8] at HSM
  simp only [h8, decide_true] at HSM
  have HVA := Lib.hid (show validB (enc n) = true from hN.valid)
  obtain ⟨i0, hi, hz0, hz1, hz2⟩ := info_parts info_u8
  have HI := Lib.hid (And.intro hi (And.intro hz0 (And.intro hz1 hz2)))
  obtain ⟨k1, k2⟩ := And.intro (notEmpty_enc (b := n) (by omega)) (toList_enc_nil (b := n) (by omega))
  have K12 := Lib.hid (And.intro k1 k2)
  obtain ⟨E, hE⟩ : ∃ E, enc n = E := ⟨_, rfl⟩
  rw [hE] at HDV HSM HVA k1 k2 K12 ⊢
  clear hN hM h8 hi hz0 hz1 hz2 hE
  go_enter Tryz.func126, Tryz.ntmps126
  go_wp2_with fail
  refine (Valid_any _ _).mono ?_; rw [HVA.out]; rintro e w1 ⟨rfl, rfl⟩
  go_wp2_with fail
  clear k1 k2
  go_loopw [0, 4] (fun v0 v4 wr => ((v0 = .string E ∧ v4 = .slice none 0 0) ∨ (v0 = .string ⟨#[]⟩ ∧ wr.ownsRow w.heap.size 5 1 v4 9 (byteCells (dgL n 9)))) ∧ Below w.heap.size w wr) (fun v0 _ _ => match v0 with | .string s => s.size | _ => 0)
  case atStart => exact ⟨.inl ⟨rfl, rfl⟩, Below.refl _ _⟩
  case round =>
    obtain ⟨⟨rfl, rfl⟩ | ⟨rfl, hO⟩, hB⟩ := hrel
    · obtain ⟨k1, k2⟩ := K12.out
      go_wp2_with fail
      refine (HOF.out _).mono ?_; rintro e w2 ⟨rfl, b2⟩
      have hB2 := hB.trans (b2.mono hB.size)
      go_wp2_with fail
      refine (HDV.out _).mono ?_; rintro e w3 ⟨rfl, b3⟩
      have hB3 := hB2.trans (b3.mono hB2.size)
      go_wp2_with fail
      refine (HSM.out _).mono ?_; rintro e w4 ⟨rfl, rfl⟩
      clear hB hB2 b2 b3 k1 k2
      go_wp2_with fail
      go_loopw [4, 7, 28] (fun v4 v7 v28 wr => ∃ k : Nat, k ≤ 9 ∧ v28 = .int .i64 (k : Int) ∧ v7 = .int .u64 ((n / 10 ^ k : Nat) : Int) ∧ wr.ownsRow w.heap.size 5 1 v4 k (byteCells (dgL n k)) ∧ Below w.heap.size w wr) (fun _ _ v28 _ => 9 - (intOf v28).toNat)
      case atStart => exact ⟨0, by omega, rfl, by simp, World.ownsRow_nil _ _ _ _, hB3⟩
      case round =>
        clear hB3
        obtain ⟨k, hk, rfl, rfl, hO, hB⟩ := hrel
        by_cases hlt : k < 9
        · have hdg := dgL_succ n k
          have htn := dgt_toNat n k
          have hnx : n / 10 ^ (k + 1) = n / 10 ^ k / 10 := by rw [Nat.pow_succ, Nat.div_div_eq_div_mul]
          have hml : n / 10 ^ k ≤ n := Nat.div_le_self _ _
          generalize n / 10 ^ k = m at htn hml hnx ⊢
          generalize dgt n k = dd at htn hdg
          have hmm : m % 10 < 10 := Nat.mod_lt _ (by omega)
          have HDG := Lib.hid (And.intro hdg (And.intro htn hnx))
          clear hdg htn hnx
          obtain ⟨hi, hz0, hz1, hz2⟩ := HI.out
          have hA := own_keepL ((Below.refl _ wr).alloc (Nat.le_refl _) (.cells #[.int .u8 (48 + (m : Int) % 10)] 5)) hO
          have hz : ((dd.toNat : Nat) : Int) = 48 + (m : Int) % 10 := by rw [HDG.out.2.1]; omega
          have HZ := Lib.hid hz
          have hsz := hB.size
          clear hz
          go_wp2_with (at_builtin; refine wpList_append_own _ rfl (.tmp 30) (.tmp 35) 88 rfl w.heap.size 5 i0 (.int .u8 0) 1 1 Tryz.underlying88 hi hz0 hz1 hz2 rfl (by decide) u4 k (byteCells (dgL n k)) rfl hA ⟨wr.heap.size, 0, none⟩ 1 1 (byteCells [dd]) rfl rfl (cells_one (new_cell0 _ _ _ _) HZ.out) (Go.Lib.byteCells_one _) ?o2 ?o3 ?o4 ?_; (case o2 => unfold maxLen; omega); (case o3 => omega); (case o4 => simp; omega); intro v1 w9 hown hgrow _; have hB9 := (hB.alloc hB.size (.cells #[.int .u8 (48 + (m : Int) % 10)] 5)).grown hgrow (by simp; omega) (fun q e => (own_ge hA q e).1); rw [← byteCells_append, ← HDG.out.1] at hown; clear hgrow)
          exact ⟨⟨k + 1, by omega, by go_num, congrArg (Value.int .u64) (by rw [HDG.out.2.2]; omega), hown, hB9⟩, by simp [intOf]; omega⟩
        · obtain rfl : k = 9 := by omega
          have hE0 : 0 < E.size := by
            rcases Nat.eq_zero_or_pos E.size with h | h
            · exfalso
              have : E = ⟨#[]⟩ := by cases E with | mk d => simp [ByteArray.size] at h; simp [h]
              subst this
              have := K12.out.2
              simp at this
            · exact h
          go_wp2_with fail
          exact ⟨⟨.inr ⟨rfl, hO⟩, hB⟩, hE0⟩
    · obtain ⟨g, cap, rfl, hg, hcap, hcell⟩ : ∃ g cap, u4 = .slice (some ⟨g, 0, none⟩) 9 cap ∧ wr.heap.size = wr.heap.size ∧ 9 ≤ cap ∧ ∀ i, i < 9 → wr.cell? ⟨g, i, none⟩ = some (.int .u8 ((dgt n i).toNat : Int)) ∧ wr.frozen? ⟨g, i, none⟩ = false ∧ w.heap.size ≤ g := by
        rcases hO.2 with ⟨_, h⟩ | ⟨g, cap, cur, hv, hg, hh, hc, _⟩
        · omega
        · refine ⟨g, cap, hv, rfl, hc, fun i hi => ⟨?_, ?_, hg⟩⟩
          · have := hO.cells (g := g) (by rw [hv]; rfl) i (.int .u8 ((dgt n i).toNat : Int)) (by simp [byteCells, dgL, hi])
            rw [addr_add] at this
            exact this
          · unfold World.frozen?
            rw [show wr.heap[(⟨g, i, none⟩ : Addr).block]? = _ from hh]
            simp
      have HC := Lib.hid hcell
      have hwg : w.heap.size ≤ g := (hcell 0 (by omega)).2.2
      clear hO hg hcell
      go_wp2_with fail
      obtain ⟨wo, rfl⟩ : ∃ wo : World, wo = wr := ⟨_, rfl⟩
      go_loopw [4] (fun v4 wq => ∃ j : Nat, j ≤ 8 ∧ v4 = .slice (some ⟨g, 0, none⟩) (j + 1) cap ∧ Hid (∀ i, j < i → i < 9 → n / 10 ^ i % 10 = 0) ∧ wq = wo) (fun v4 _ => slen v4)
      case atStart => exact ⟨8, by omega, rfl, fun i h1 h2 => by omega, rfl⟩
      case round =>
        obtain ⟨j, hj, rfl, hP, rfl⟩ := hrel
        obtain ⟨c1, c2, _⟩ := HC.out j (by omega)
        rw [dgt_toNat] at c1
        have hn10 : n / 10 ^ 1 % 10 = n / 10 := by simp; omega
        have hn0 : n / 10 ^ 0 % 10 = n % 10 := by simp
        have hbig : ∀ i, 2 ≤ i → n / 10 ^ i % 10 = 0 := fun i hi => by
          rw [Nat.div_eq_of_lt (Nat.lt_of_lt_of_le (show n < 10 ^ 2 by omega) (Nat.pow_le_pow_right (by omega) hi))]
        have hdl : n / 10 ^ j % 10 < 10 := Nat.mod_lt _ (by omega)
        have HD := Lib.hid (And.intro hn10 (And.intro hn0 hbig))
        obtain ⟨d, hd⟩ : ∃ d, n / 10 ^ j % 10 = d := ⟨_, rfl⟩
        rw [hd] at c1 hdl
        have HDD := Lib.hid hd
        clear hn10 hn0 hbig hd
        by_cases hd0 : d = 0
        · subst hd0
          have c1 : wr.cell? ⟨g, j, none⟩ = some (.int .u8 48) := c1
          have hj0 : j ≠ 0 := fun e => by
            subst e
            have a1 := HDD.out
            have a2 := hP.out 1 (by omega) (by omega)
            rw [HD.out.1] at a2
            rw [HD.out.2.1] at a1
            omega
          obtain ⟨i, rfl⟩ : ∃ i, j = i + 1 := ⟨j - 1, by omega⟩
          have HP2 : Hid (∀ q, i < q → q < 9 → n / 10 ^ q % 10 = 0) := fun q h1 h2 => by
            rcases Nat.lt_or_ge (i + 1) q with h | h
            · exact hP.out q h h2
            · obtain rfl : q = i + 1 := by omega
              exact HDD.out
          clear hP hj0
          go_wp2_with fail
          exact ⟨⟨i, by omega, rfl, HP2, by trivial⟩, by simp [slen]⟩
        · have hne : ¬ ((48 : Int) + (d : Int) = 48) := by omega
          have hne2 : ((48 : Int) + (d : Int) == 48) = false := by rw [beq_eq_false_iff_ne]; exact hne
          have hne3 : ¬ ((d : Int) = 0) := by omega
          have hj2 : j = 0 ∨ j = 1 := by
            rcases Nat.lt_or_ge j 2 with h | h
            · omega
            · exact absurd (HDD.out.symm.trans (HD.out.2.2 j h)) hd0
          have hres : str (if j = 0 then [dgt n 0] else [dgt n 1, dgt n 0]) = str (dec2 n) := by
            have a1 := HD.out.1
            have a0 := HD.out.2.1
            rcases hj2 with rfl | rfl
            · have b1 := hP.out 1 (by omega) (by omega)
              rw [a1] at b1
              have hlt : n < 10 := by omega
              unfold dec2 dgt
              rw [if_pos rfl, if_pos hlt, a0, show n % 10 = n by omega]
            · have b1 := HDD.out
              rw [a1] at b1
              unfold dec2 dgt
              rw [if_neg (by omega), if_neg (by omega), a0, a1]
          have HRS := Lib.hid hres
          clear hP hres
          rcases hj2 with rfl | rfl
          · obtain ⟨e0, f0, _⟩ := HC.out 0 (by omega)
            have hcv : (convert 88 9 (.slice (some ⟨g, 0, none⟩) 1 cap)).run Tryz.prog wr = .ok (.string (str [dgt n 0])) wr := conv_str wr g 0 cap [dgt n 0] (fun q hq => by
              obtain rfl : q = 0 := by simp at hq; omega
              exact e0)
            clear e0 f0
            go_wp2_with fail
            go_loopw [56] (fun v56 wq => v56 = .int .i64 0 ∧ wq = wr) (fun _ _ => 0)
            case atStart => exact ⟨rfl, rfl⟩
            case round =>
              obtain ⟨rfl, rfl⟩ := hrel
              go_wp2_with fail
              go_ret2
              exact ⟨by rw [← HRS.out]; rfl, hB⟩
          · clear c1 c2
            obtain ⟨e0, f0, _⟩ := HC.out 0 (by omega)
            obtain ⟨e1, f1, _⟩ := HC.out 1 (by omega)
            have hz1 := dgt_toNat n 1
            rw [HDD.out] at hz1
            have HCV : Hid (∀ W : World, W.cell? ⟨g, 0, none⟩ = some (.int .u8 ((dgt n 1).toNat : Int)) → W.cell? ⟨g, 1, none⟩ = some (.int .u8 ((dgt n 0).toNat : Int)) → (convert 88 9 (.slice (some ⟨g, 0, none⟩) 2 cap)).run Tryz.prog W = .ok (.string (str [dgt n 1, dgt n 0])) W) := fun W a b => conv_str W g 0 cap [dgt n 1, dgt n 0] (fun q hq => by
              have hq2 : q = 0 ∨ q = 1 := by simp at hq; omega
              rcases hq2 with rfl | rfl
              · exact a
              · exact b)
            generalize hx0 : (((dgt n 0).toNat : Nat) : Int) = x0 at e0 HCV
            generalize hx1 : (((dgt n 1).toNat : Nat) : Int) = x1 at e1 hz1 HCV
            subst hz1
            clear hx0 hx1
            go_wp2_with fail
            obtain ⟨wo2, rfl⟩ : ∃ wo : World, wo = wr := ⟨_, rfl⟩
            go_loopw [56] (fun v56 wq => (v56 = .int .i64 0 ∧ wq = wo2) ∨ (v56 = .int .i64 1 ∧ wq.cell? ⟨g, 0, none⟩ = some (.int .u8 (48 + (d : Int))) ∧ wq.cell? ⟨g, 1, none⟩ = some (.int .u8 x0) ∧ Below w.heap.size w wq)) (fun v56 _ => 2 - (intOf v56).toNat)
            case atStart => exact .inl ⟨rfl, rfl⟩
            case round =>
              obtain ⟨rfl, rfl⟩ | ⟨rfl, a0, a1, hB2⟩ := hrel
              · go_wp2_with fail
                go_region
                have hb4 := ((hB.setCell (p := ⟨g, 0, none⟩) hwg (.int .u8 (48 + (d : Int)))).setCell (p := ⟨g, 1, none⟩) hwg (.int .u8 x0)).drew
                obtain ⟨y0, y1⟩ := swap_cells (x := .int .u8 (48 + (d : Int))) (y := .int .u8 x0) e0 e1
                have y2 : ((wr.setCell ⟨g, 0, none⟩ (.int .u8 (48 + (d : Int)))).setCell ⟨g, 1, none⟩ (.int .u8 x0)).drew.cell? ⟨g, 0, none⟩ = some (.int .u8 (48 + (d : Int))) := y0
                have y3 : ((wr.setCell ⟨g, 0, none⟩ (.int .u8 (48 + (d : Int)))).setCell ⟨g, 1, none⟩ (.int .u8 x0)).drew.cell? ⟨g, 1, none⟩ = some (.int .u8 x0) := y1
                generalize World.drew _ = w7 at hb4 y2 y3 ⊢
                go_wp2_with fail
                exact ⟨.inr ⟨rfl, y2, y3, hb4⟩, by simp [intOf]⟩
              · have hcv := HCV.out _ a0 a1
                go_wp2_with fail
                go_ret2
                exact ⟨by rw [← HRS.out]; rfl, hB2⟩
end Go.Proofs.YtdhhbjmkdmbffaaGreatDoor

/- linear.Text at the example of the chapter. -/
namespace Go.Proofs.YtdhhbjmkdmbffaaGreatDoor
open Go.RowKit Num
set_option maxRecDepth 20000
set_option linter.unusedVariables false
theorem isE {n : Nat} (h : n < 256) : IsN (enc n) n := IsN.mk' ((blen_le_iff n 128).2 (Nat.lt_of_lt_of_le (show n < 256 ^ 1 by omega) (Nat.pow_le_pow_right (by omega) (by omega))))
theorem ntext2 (n : Nat) (w : World) (h2 : n < 100) : Calls Tryz.prog 126 #[.string (enc n)] w fun e w' => e = .returned (.tuple #[.string (str (dec2 n)), .int .i64 0]) ∧ Below w.heap.size w w' := by
  rcases Nat.eq_zero_or_pos n with rfl | h
  · exact ntext_zero w
  · exact ntext_any n w h h2
theorem decimal_any (n : Nat) (w : World) (h2 : n < 100) : Calls Tryz.prog 82 #[.string (enc n)] w fun e w' => e = .returned (.string (str (dec2 n))) ∧ Below w.heap.size w w' := by
  have H := Lib.hid (ntext2 n w h2)
  obtain ⟨E, hE⟩ : ∃ E, enc n = E := ⟨_, rfl⟩
  obtain ⟨T, hT⟩ : ∃ E, str (dec2 n) = E := ⟨_, rfl⟩
  rw [hE, hT] at H ⊢
  clear hE hT h2
  go_enter Tryz.func82, Tryz.ntmps82
  go_wp2_with fail
  refine H.out.mono ?_; rintro e w1 ⟨rfl, b1⟩
  go_wp2_with fail
  go_ret
  exact ⟨rfl, b1⟩
theorem itext_any (n : Nat) (w : World) (h1 : 1 ≤ n) (h2 : n < 100) : Calls Tryz.prog 84 #[.agg #[.bool false, .string (enc n)]] w fun e w' => e = .returned (.tuple #[.string (str (dec2 n)), .int .i64 0]) ∧ Below w.heap.size w w' := by
  have H := Lib.hid (fun w => ntext2 n w h2)
  have hv : ivB (false, enc n) = true := by unfold ivB; rw [(isE (show n < 256 by omega)).valid]; rfl
  have HV := Lib.hid (ivalidW hv)
  obtain ⟨E, hE⟩ : ∃ E, enc n = E := ⟨_, rfl⟩
  obtain ⟨T, hT⟩ : ∃ E, str (dec2 n) = E := ⟨_, rfl⟩
  simp only [hE, hT] at H HV ⊢
  clear hE hT h2 hv
  have hI := IBL.new w false E
  have c0 := hI.c0
  have c1 := hI.c1
  have hb := (Below.refl _ w).alloc (Nat.le_refl _) (.cells #[.bool false, .string E] 36)
  go_enter Tryz.func84, Tryz.ntmps84
  go_wp2_with fail
  generalize hw0 : World.alloc _ _ = w0 at hI hb c0 c1 ⊢
  clear hw0
  refine (HV.out _).mono ?_; rintro e w1 ⟨rfl, b1⟩
  have hI1 := hI.below b1 hI.lt
  have d0 := hI1.c0
  have d1 := hI1.c1
  have hb1 := hb.trans (b1.mono hb.size)
  clear hI c0 c1 b1 hb
  go_wp2_with fail
  refine (H.out _).mono ?_; rintro e w2 ⟨rfl, b2⟩
  have hI2 := hI1.below b2 hI1.lt
  have e0 := hI2.c0
  have hb2 := hb1.trans (b2.mono hb1.size)
  clear hI1 d0 d1
  go_wp2_with fail
  go_ret2
  exact ⟨rfl, hb2⟩
theorem small0 (w : World) : Calls Tryz.prog 182 #[.int .i64 0] w fun e w' => e = .returned (.string ⟨#[48]⟩) ∧ w = w' := by
  go_enter Tryz.func182, Tryz.ntmps182
  go_wp2_with fail
  go_ret
  exact ⟨by rfl, rfl⟩
theorem fint0 (w : World) : Calls Tryz.prog 161 #[.int .i64 0, .int .i64 10] w fun e w' => e = .returned (.string ⟨#[48]⟩) ∧ w = w' := by
  go_enter Tryz.func161, Tryz.ntmps161
  go_wp2_with fail
  refine (small0 _).mono ?_; rintro e w1 ⟨rfl, rfl⟩
  go_wp2_with fail
  go_ret
  exact ⟨rfl, rfl⟩
theorem iitoa0 (w : World) : Calls Tryz.prog 127 #[.int .i64 0] w fun e w' => e = .returned (.string ⟨#[48]⟩) ∧ w = w' := by
  go_enter Tryz.func127, Tryz.ntmps127
  go_wp2_with fail
  refine (fint0 _).mono ?_; rintro e w1 ⟨rfl, rfl⟩
  go_wp2_with fail
  go_ret
  exact ⟨rfl, rfl⟩
theorem itoa0 (w : World) : Calls Tryz.prog 83 #[.int .i64 0] w fun e w' => e = .returned (.string ⟨#[48]⟩) ∧ w = w' := by
  go_enter Tryz.func83, Tryz.ntmps83
  go_wp2_with fail
  refine (iitoa0 _).mono ?_; rintro e w1 ⟨rfl, rfl⟩
  go_wp2_with fail
  go_ret
  exact ⟨rfl, rfl⟩
/-- the example of the chapter, with a bound for its variable -/
def exS (b : ByteArray) (ta : Option Addr) (tc : Nat) : StM := ⟨[(enc 23, enc 11)], [b], [(0, enc 18, (ta, tc, [(enc 4, 0, (false, enc 1))]))]⟩
theorem exS_ok (n : Nat) (h : n < 256) (ta : Option Addr) (tc : Nat) : (exS (enc n) ta tc).ok := by
  have z : ∀ k, k < 256 → (enc k).size ≤ maxLen := fun k hk => by
    have h1 := (isE hk).le
    rw [size_enc]; unfold maxLen; omega
  refine ⟨by simp [exS, maxLen], by simp [exS, maxLen], by simp [exS, maxLen], fun x hx => ?_, fun x hx => ?_, fun x hx => ?_⟩
  · simp [exS] at hx; subst hx; exact ⟨z 23 (by omega), z 11 (by omega)⟩
  · simp [exS] at hx; subst hx; exact z n h
  · simp [exS] at hx; subst hx
    refine ⟨show (Lit.int .i64 0).wf = true by decide, z 18 (by omega), by simp [maxLen], fun t ht => ?_⟩
    simp at ht; subst ht
    exact ⟨z 4 (by omega), show (Lit.int .i64 0).wf = true by decide, z 1 (by omega)⟩
theorem exS_pl (b : ByteArray) (ta : Option Addr) (tc : Nat) : (exS b ta tc).pl = ⟨[(enc 23, enc 11)], [b], [(0, enc 18, [(enc 4, 0, (false, enc 1))])]⟩ := rfl
theorem ex_check (ta : Option Addr) (tc : Nat) : lckE (exS (enc 0) ta tc).pl = 0 := by rw [exS_pl]; decide +kernel
/-- the text -/
def exR0 : List UInt8 := [103, 114, 111, 117, 112, 32, 50, 51, 32, 49, 49, 10]
def exR1 : List UInt8 := [118, 97, 114, 105, 97, 98, 108, 101, 32, 48, 10]
def exR2 : List UInt8 := [101, 113, 117, 97, 116, 105, 111, 110, 32, 48, 32, 49, 56, 32, 61]
def exR3 : List UInt8 := [32, 52, 94, 49, 42, 119, 48]
def exT0 : List UInt8 := exR0
def exT1 : List UInt8 := exT0 ++ exR1
def exT2 : List UInt8 := exT1 ++ exR2
def exT3 : List UInt8 := exT2 ++ exR3
def exT4 : List UInt8 := exT3 ++ [10]
/-- WriteString of a string known as bytes -/
theorem ws_any (b : Nat) (l r : List UInt8) (s : ByteArray) (hs : s = str r) (hl : l.length ≤ 1000) (hr : r.length ≤ 1000) (w : World) (h : Bld 151 w b l) :
    Calls Tryz.prog 81 #[.pointer (some ⟨b, 0, none⟩), .string s] w fun e w' => e = .returned (.tuple #[.int .i64 r.length, .nilIface]) ∧ Bld 151 w' b (l ++ r) ∧ Below b w w' ∧ Oth b w w' := by
  subst hs
  exact WriteString_any _ bt_builder b l r w h (by omega) (by omega)
theorem GB.oth {w w' : World} {b p : Nat} {M O : ByteArray} (h : GB w p M O) (ho : Oth b w w') (hne : p ≠ b) : GB w' p M O := ho p _ _ _ hne (by decide) h
theorem TmB.drew' {w : World} {p : Nat} {s e : ByteArray} {i : Int} {g : Bool} (h : TmB w p s i g e) : TmB w.drew p s i g e := h
theorem QB.drew' {w : World} {p : Nat} {i : Int} {s : ByteArray} {v : Value} (h : QB w p i s v) : QB w.drew p i s v := h
theorem QB.oth {w w' : World} {b p : Nat} {i : Int} {s : ByteArray} {v : Value} (h : QB w p i s v) (ho : Oth b w w') (hne : p ≠ b) : QB w' p i s v := ho p _ _ _ hne (by decide) h
theorem TmB.oth {w w' : World} {b p : Nat} {s e : ByteArray} {i : Int} {g : Bool} (h : TmB w p s i g e) (ho : Oth b w w') (hne : p ≠ b) : TmB w' p s i g e := ho p _ _ _ hne (by decide) h
set_option maxHeartbeats 16000000 in
theorem text_ex (a : StA) (ta : Option Addr) (tc : Nat) (S : StM) (w : World) (hSe : exS (enc 0) ta tc = S) (hS : SS w a S) :
    Calls Tryz.prog 39 #[.agg #[.slice a.ga S.G.length a.gc, .slice a.va S.V.length a.vc, .slice a.qa S.Q.length a.qc]] w fun e w' => e = .returned (.tuple #[.string (str exT4), .int .i64 0]) ∧ Below w.heap.size w w' := by
  have hok := exS_ok 0 (by omega) ta tc
  have hck := ex_check ta tc
  rw [hSe] at hok hck
  have hb := (Below.refl _ w).alloc (Nat.le_refl _) (.cells #[.slice a.ga S.G.length a.gc, .slice a.va S.V.length a.vc, .slice a.qa S.Q.length a.qc] 49)
  have hX := SXB.new w a S
  have hS0 := hS.below hb (Nat.le_refl _)
  have HCK := Lib.hid (lcheck_any a S (w.alloc (.cells #[.slice a.ga S.G.length a.gc, .slice a.va S.V.length a.vc, .slice a.qa S.Q.length a.qc] 49)) hS0 hok)
  rw [hck] at HCK
  clear hok hck
  have hX0 := hX.c0
  have hX1 := hX.c1
  have hX2 := hX.c2
  have hg := hS0.g
  have hv := hS0.v
  have hq := hS0.q
  subst hSe
  simp only [exS, List.length_cons, List.length_nil, Nat.zero_add] at hb hX0 hX1 hX2 HCK hg hv hq ⊢
  obtain ⟨g, go, hga, G0, G1⟩ := hg 0 (by simp)
  obtain ⟨v, vo, hva, V0⟩ := hv 0 (by simp)
  obtain ⟨q, qo, hqa, Q0, Q1, Q2, hT⟩ := hq 0 (by simp)
  obtain ⟨t, tt, hta, T0, T1, T2, T3⟩ := hT 0 (by simp)
  simp only [List.getElem_cons_zero, Nat.zero_mul, Nat.add_zero, List.length_cons, List.length_nil, Nat.zero_add] at G0 G1 V0 Q0 Q1 Q2 T0 T1 T2 T3 hta
  obtain ⟨ga, gc, va, vc, qa, qc⟩ := a
  simp only at hga hva hqa hta hb hX0 hX1 hX2 HCK ⊢
  subst hga hva hqa hta
  clear hg hv hq hT hS hX hS0
  have HD23 := Lib.hid (fun w => decimal_any 23 w (by omega))
  have HD11 := Lib.hid (fun w => decimal_any 11 w (by omega))
  have HD0 := Lib.hid (fun w => decimal_any 0 w (by omega))
  have HD18 := Lib.hid (fun w => decimal_any 18 w (by omega))
  have HD4 := Lib.hid (fun w => decimal_any 4 w (by omega))
  have HI1 := Lib.hid (fun w => itext_any 1 w (by omega) (by omega))
  simp only at G0 G1 V0 Q0 Q1 Q2 T0 T1 T2 T3
  have e23 : str (dec2 23) = ⟨#[50, 51]⟩ := by decide +kernel
  have e11 : str (dec2 11) = ⟨#[49, 49]⟩ := by decide +kernel
  have e0 : str (dec2 0) = ⟨#[48]⟩ := by decide +kernel
  have e18 : str (dec2 18) = ⟨#[49, 56]⟩ := by decide +kernel
  have e4 : str (dec2 4) = ⟨#[52]⟩ := by decide +kernel
  have e1 : str (dec2 1) = ⟨#[49]⟩ := by decide +kernel
  rw [e23] at HD23
  rw [e11] at HD11
  rw [e0] at HD0
  rw [e18] at HD18
  rw [e4] at HD4
  rw [e1] at HI1
  obtain ⟨s23, h23⟩ : ∃ s, enc 23 = s := ⟨_, rfl⟩
  obtain ⟨s11, h11⟩ : ∃ s, enc 11 = s := ⟨_, rfl⟩
  obtain ⟨s0, h0⟩ : ∃ s, enc 0 = s := ⟨_, rfl⟩
  obtain ⟨s18, h18⟩ : ∃ s, enc 18 = s := ⟨_, rfl⟩
  obtain ⟨s4, h4⟩ : ∃ s, enc 4 = s := ⟨_, rfl⟩
  obtain ⟨s1, h1⟩ : ∃ s, enc 1 = s := ⟨_, rfl⟩
  rw [h23] at G0 HD23
  rw [h11] at G1 HD11
  rw [h0] at V0 HD0
  rw [h18] at Q1 HD18
  rw [h4] at T0 HD4
  rw [h1] at T3 HI1
  clear e23 e11 e0 e18 e4 e1 h23 h11 h0 h18 h4 h1
  obtain ⟨R, hR⟩ : ∃ R, str exT4 = R := ⟨_, rfl⟩
  rw [hR]
  have HRR := Lib.hid hR
  clear hR
  go_enter Tryz.func39, Tryz.ntmps39
  go_wp2_with fail
  generalize hw0 : World.alloc _ _ = w0 at hb hX0 hX1 hX2 HCK G0 G1 V0 Q0 Q1 Q2 T0 T1 T2 T3 ⊢
  clear hw0
  have HCS : Hid (∀ w', Below w0.heap.size w0 w' → w'.cell? ⟨w.heap.size, 0, none⟩ = some (.slice (some ⟨g, go, none⟩) 1 gc) ∧ w'.cell? ⟨w.heap.size, 1, none⟩ = some (.slice (some ⟨v, vo, none⟩) 1 vc) ∧ w'.cell? ⟨w.heap.size, 2, none⟩ = some (.slice (some ⟨q, qo, none⟩) 1 qc) ∧
      w'.cell? ⟨g, go, none⟩ = some (.string s23) ∧ w'.cell? ⟨g, go + 1, none⟩ = some (.string s11) ∧ w'.cell? ⟨v, vo, none⟩ = some (.string s0) ∧ w'.cell? ⟨q, qo, none⟩ = some (.int .i64 0) ∧ w'.cell? ⟨q, qo + 1, none⟩ = some (.string s18) ∧ w'.cell? ⟨q, qo + 2, none⟩ = some (.slice (some ⟨t, tt, none⟩) 1 tc) ∧
      w'.cell? ⟨t, tt, none⟩ = some (.string s4) ∧ w'.cell? ⟨t, tt + 1, none⟩ = some (.int .i64 0) ∧ w'.cell? ⟨t, tt + 2, none⟩ = some (.bool false) ∧ w'.cell? ⟨t, tt + 3, none⟩ = some (.string s1)) := fun w' h =>
    ⟨cells_keepL h (Nat.le_refl _) _ _ hX0, cells_keepL h (Nat.le_refl _) _ _ hX1, cells_keepL h (Nat.le_refl _) _ _ hX2, cells_keepL h (Nat.le_refl _) _ _ G0, cells_keepL h (Nat.le_refl _) _ _ G1, cells_keepL h (Nat.le_refl _) _ _ V0, cells_keepL h (Nat.le_refl _) _ _ Q0, cells_keepL h (Nat.le_refl _) _ _ Q1, cells_keepL h (Nat.le_refl _) _ _ Q2, cells_keepL h (Nat.le_refl _) _ _ T0, cells_keepL h (Nat.le_refl _) _ _ T1, cells_keepL h (Nat.le_refl _) _ _ T2, cells_keepL h (Nat.le_refl _) _ _ T3⟩
  go_wp2_with fail
  refine HCK.out.mono ?_; rintro e w1 ⟨rfl, b1⟩
  clear hX0 hX1 hX2 G0 G1 V0 Q0 Q1 Q2 T0 T1 T2 T3 HCK
  obtain ⟨x0, x1, x2, _⟩ := HCS.out _ b1
  have hL := Bld.new 151 w1
  have hbB := (Below.refl _ w1).alloc (Nat.le_refl _) (.cells #[.pointer none, .slice none 0 0] 151)
  have b2 := b1.trans (hbB.mono b1.size)
  have hwl : w0.heap.size ≤ w1.heap.size := b1.size
  obtain ⟨y0, _⟩ := HCS.out _ b2
  go_wp2_with fail
  generalize hbb : w1.heap.size = bb at hL hbB hwl ⊢
  generalize hw2 : World.alloc w1 _ = w2 at hL hbB b2 y0 ⊢
  clear hw2 x0 x1 x2 hbb b1 hbB
  have W0 := Lib.hid (ws_any bb [] exR0 (⟨#[103, 114, 111, 117, 112, 32]⟩ ++ ⟨#[50, 51]⟩ ++ ⟨#[32]⟩ ++ ⟨#[49, 49]⟩ ++ ⟨#[10]⟩) (by decide +kernel) (by decide +kernel) (by decide +kernel))
  have W1 := Lib.hid (ws_any bb exT0 exR1 (⟨#[118, 97, 114, 105, 97, 98, 108, 101, 32]⟩ ++ ⟨#[48]⟩ ++ ⟨#[10]⟩) (by decide +kernel) (by decide +kernel) (by decide +kernel))
  have W2 := Lib.hid (ws_any bb exT1 exR2 (⟨#[101, 113, 117, 97, 116, 105, 111, 110, 32]⟩ ++ ⟨#[48]⟩ ++ ⟨#[32]⟩ ++ ⟨#[49, 56]⟩ ++ ⟨#[32, 61]⟩) (by decide +kernel) (by decide +kernel) (by decide +kernel))
  have W3 := Lib.hid (ws_any bb exT2 exR3 (⟨#[32]⟩ ++ ⟨#[52]⟩ ++ ⟨#[94]⟩ ++ ⟨#[49]⟩ ++ ⟨#[42, 119]⟩ ++ ⟨#[48]⟩) (by decide +kernel) (by decide +kernel) (by decide +kernel))
  have W4 := Lib.hid (ws_any bb exT3 [10] ⟨#[10]⟩ (by decide +kernel) (by decide +kernel) (by decide +kernel))
  have HLN : Hid (exT4.length = 46) := by show exT4.length = 46; decide +kernel
  have HNE : Hid (exT4 ≠ []) := by show exT4 ≠ []; decide +kernel
  go_loopw [24] (fun v24 wr => ((v24 = .int .i64 0 ∧ Bld 151 wr bb []) ∨ (v24 = .int .i64 1 ∧ Bld 151 wr bb exT0)) ∧ Below w0.heap.size w0 wr) (fun v24 _ => 2 - (intOf v24).toNat)
  case atStart => exact ⟨.inl ⟨rfl, hL⟩, b2⟩
  case round =>
    clear hL b2 y0
    obtain ⟨⟨rfl, hL⟩ | ⟨rfl, hL⟩, hB⟩ := hrel
    · obtain ⟨x0, x1, x2, G0, G1, _⟩ := HCS.out _ hB
      have hG := GB.new wr s23 s11
      have hbN := (Below.refl _ wr).alloc (Nat.le_refl _) (.cells #[.string s23, .string s11] 27)
      have c0 := hG.c0
      have c1 := hG.c1
      have hL1 := hL.below hbN (Nat.le_refl _)
      have hB1 := hB.trans (hbN.mono hB.size)
      have hlt := hL.lt
      have hne : wr.heap.size ≠ bb := by omega
      clear hL hB hbN
      go_wp2_with fail
      clear x0 x1 x2 G0 G1
      generalize wr.heap.size = p7 at hG c0 c1 hlt hne ⊢
      generalize hw3 : World.alloc wr _ = w3 at hG c0 c1 hL1 hB1 ⊢
      clear hw3
      go_region_held3 (fun w' => w'.cell? ⟨p7, 0, none⟩ = some (.string s23) ∧ w'.cell? ⟨p7, 1, none⟩ = some (.string s11) ∧ GB w' p7 s23 s11 ∧ Below w0.heap.size w0 w')
        (first | exact ⟨c0, c1, hG, hB1.drew⟩ | exact ⟨hG2.c0, hG2.c1, hG2, hB2⟩ | exact ⟨hG3.c0, hG3.c1, hG3, hB3⟩ | exact ⟨hG4.c0, hG4.c1, hG4, hB4⟩ | assumption)
        (first
          | (go_at_call 82; (with_reducible refine (HD23.out _).mono ?_); rintro e wa ⟨rfl, ba⟩; have hG2 := hG.drew.below ba hG.lt; have hB2 := hB1.drew.trans (ba.mono hB1.size); have hL2 := hL1.drew.below ba (Nat.le_refl _))
          | (go_at_call 82; (with_reducible refine (HD11.out _).mono ?_); rintro e wb ⟨rfl, bb'⟩; have hG3 := hG2.below bb' hG2.lt; have hB3 := hB2.trans (bb'.mono hB2.size); have hL3 := hL2.below bb' (Nat.le_refl _))
          | (go_at_call 81; (with_reducible refine (W0.out _ hL3).mono ?_); rintro e wc ⟨rfl, hL4, bc, oc⟩; have hG4 := hG3.oth oc hne; have hB4 := hB3.trans (bc.mono hwl)))
      all_goals
        clear hG2 hG3 hL2 hL3 hB2 hB3
        go_wp2_with fail
        exact ⟨⟨.inr ⟨rfl, hL4⟩, hB4⟩, by simp [intOf]⟩
    · obtain ⟨x0, x1, x2, _⟩ := HCS.out _ hB
      clear W0 HD23 HD11
      go_wp2_with fail
      obtain ⟨wo, rfl⟩ : ∃ wo : World, wo = wr := ⟨_, rfl⟩
      clear x0 x1 x2
      go_loopw [43] (fun v43 wr => ((v43 = .int .i64 0 ∧ Bld 151 wr bb exT0) ∨ (v43 = .int .i64 1 ∧ Bld 151 wr bb exT1)) ∧ Below w0.heap.size w0 wr) (fun v43 _ => 2 - (intOf v43).toNat)
      case atStart => exact ⟨.inl ⟨rfl, hL⟩, hB⟩
      case round =>
        clear hL hB
        obtain ⟨⟨rfl, hL⟩ | ⟨rfl, hL⟩, hB⟩ := hrel
        · obtain ⟨x0, x1, x2, G0, G1, V0, _⟩ := HCS.out _ hB
          have hG := VrB.new wr s0
          have hbN := (Below.refl _ wr).alloc (Nat.le_refl _) (.cells #[.string s0] 40)
          have c0 := hG.c0
          have hL1 := hL.below hbN (Nat.le_refl _)
          have hB1 := hB.trans (hbN.mono hB.size)
          clear hL hB hbN hG
          go_wp2_with fail
          clear x0 x1 x2 G0 G1 V0 c0
          generalize hw3 : World.alloc wr _ = w3 at hL1 hB1 ⊢
          clear hw3
          refine (HD0.out _).mono ?_; rintro e wa ⟨rfl, ba⟩
          have hL2 := hL1.below ba (Nat.le_refl _)
          have hB2 := hB1.trans (ba.mono hB1.size)
          go_wp2_with fail
          refine (W1.out _ hL2).mono ?_; rintro e wb ⟨rfl, hL3, bb', ob⟩
          have hB3 := hB2.trans (bb'.mono hwl)
          clear hL1 hB1 hL2 hB2
          go_wp2_with fail
          exact ⟨⟨.inr ⟨rfl, hL3⟩, hB3⟩, by simp [intOf]⟩
        · obtain ⟨x0, x1, x2, _⟩ := HCS.out _ hB
          clear W1 HD0
          go_wp2_with fail
          obtain ⟨wo2, rfl⟩ : ∃ wo : World, wo = wr := ⟨_, rfl⟩
          clear x0 x1 x2
          go_loopw [57] (fun v57 wr => ((v57 = .int .i64 0 ∧ Bld 151 wr bb exT1) ∨ (v57 = .int .i64 1 ∧ Bld 151 wr bb exT4)) ∧ Below w0.heap.size w0 wr) (fun v57 _ => 2 - (intOf v57).toNat)
          case atStart => exact ⟨.inl ⟨rfl, hL⟩, hB⟩
          case round =>
            clear hL hB
            obtain ⟨⟨rfl, hL⟩ | ⟨rfl, hL⟩, hB⟩ := hrel
            · obtain ⟨x0, x1, x2, G0, G1, V0, Q0, Q1, Q2, _⟩ := HCS.out _ hB
              have hG := QB.new wr 0 s18 (.slice (some ⟨t, tt, none⟩) 1 tc)
              have hbN := (Below.refl _ wr).alloc (Nat.le_refl _) (.cells #[.int .i64 0, .string s18, .slice (some ⟨t, tt, none⟩) 1 tc] 46)
              have c0 := hG.c0
              have c1 := hG.c1
              have c2 := hG.c2
              have hL1 := hL.below hbN (Nat.le_refl _)
              have hB1 := hB.trans (hbN.mono hB.size)
              have hlt := hL.lt
              have hne : wr.heap.size ≠ bb := by omega
              clear hL hB hbN
              go_wp2_with fail
              clear x0 x1 x2 G0 G1 V0 Q0 Q1 Q2
              generalize wr.heap.size = p11 at hG c0 c1 c2 hlt hne ⊢
              generalize hw3 : World.alloc wr _ = w3 at hG c0 c1 c2 hL1 hB1 ⊢
              clear hw3
              go_cut [11] from 61 to 105 (fun v11 wc => v11 = .pointer (some ⟨p11, 0, none⟩) ∧ QB wc p11 0 s18 (.slice (some ⟨t, tt, none⟩) 1 tc) ∧ Bld 151 wc bb exT2 ∧ Below w0.heap.size w0 wc)
              case first =>
                go_region_held3 (fun w' => w'.cell? ⟨p11, 0, none⟩ = some (.int .i64 0) ∧ w'.cell? ⟨p11, 1, none⟩ = some (.string s18) ∧ QB w' p11 0 s18 (.slice (some ⟨t, tt, none⟩) 1 tc) ∧ Below w0.heap.size w0 w')
                  (first | exact ⟨c0, c1, hG, hB1.drew⟩ | exact ⟨hG2.c0, hG2.c1, hG2, hB2⟩ | exact ⟨hG3.c0, hG3.c1, hG3, hB3⟩ | exact ⟨hG4.c0, hG4.c1, hG4, hB4⟩ | assumption)
                  (first
                    | (go_at_call 83; (with_reducible refine (itoa0 _).mono ?_); rintro e wa ⟨rfl, ba⟩; have hG2 : QB wa p11 0 s18 (.slice (some ⟨t, tt, none⟩) 1 tc) := ba ▸ hG.drew'; have hB2 : Below w0.heap.size w0 wa := ba ▸ hB1.drew; have hL2 : Bld 151 wa bb exT1 := ba ▸ hL1.drew)
                    | (go_at_call 82; (with_reducible refine (HD18.out _).mono ?_); rintro e wb ⟨rfl, bb'⟩; have hG3 := hG2.below bb' hG2.lt; have hB3 := hB2.trans (bb'.mono hB2.size); have hL3 := hL2.below bb' (Nat.le_refl _))
                    | (go_at_call 81; (with_reducible refine (W2.out _ hL3).mono ?_); rintro e wd ⟨rfl, hL4, bc, oc⟩; have hG4 := hG3.oth oc hne; have hB4 := hB3.trans (bc.mono hwl)))
                all_goals (go_split_ands; go_wp2_with fail; go_meet; exact ⟨rfl, hG4, hL4, hB4⟩)
              case rest =>
                clear hG hL1 hB1 c0 c1 c2
                obtain ⟨rfl, hG, hL, hB⟩ := hcut
                rename World => wm
                have c2 := hG.c2
                go_wp2_with fail
                go_loopw [75] (fun v75 wr => ((v75 = .int .i64 0 ∧ Bld 151 wr bb exT2) ∨ (v75 = .int .i64 1 ∧ Bld 151 wr bb exT3)) ∧ QB wr p11 0 s18 (.slice (some ⟨t, tt, none⟩) 1 tc) ∧ Below w0.heap.size w0 wr) (fun v75 _ => 2 - (intOf v75).toNat)
                case atStart => exact ⟨.inl ⟨rfl, hL⟩, hG, hB⟩
                case round =>
                  clear hL hB hG c2
                  obtain ⟨⟨rfl, hL⟩ | ⟨rfl, hL⟩, hG, hB⟩ := hrel
                  · obtain ⟨x0, x1, x2, G0, G1, V0, Q0, Q1, Q2, T0, T1, T2, T3⟩ := HCS.out _ hB
                    have c2 := hG.c2
                    have hM := TmB.new wr s4 0 false s1
                    have hbN := (Below.refl _ wr).alloc (Nat.le_refl _) (.cells #[.string s4, .int .i64 0, .bool false, .string s1] 43)
                    have m0 := hM.c0
                    have m1 := hM.c1
                    have m2 := hM.c2
                    have m3 := hM.c3
                    have hL1 := hL.below hbN (Nat.le_refl _)
                    have hB1 := hB.trans (hbN.mono hB.size)
                    have hG1 := hG.below hbN hG.lt
                    have hlt2 := hL.lt
                    have hne2 : wr.heap.size ≠ bb := by omega
                    clear hL hB hbN hG
                    go_wp2_with fail
                    clear x0 x1 x2 G0 G1 V0 Q0 Q1 Q2 T0 T1 T2 T3 c2
                    generalize wr.heap.size = p13 at hM m0 m1 m2 m3 hne2 ⊢
                    generalize hw3 : World.alloc wr _ = w3 at hM m0 m1 m2 m3 hL1 hB1 hG1 ⊢
                    clear hw3
                    refine (HI1.out _).mono ?_; rintro e wi ⟨rfl, bi⟩
                    have hM2 := hM.below bi hM.lt
                    have hL2 := hL1.below bi (Nat.le_refl _)
                    have hB2 := hB1.trans (bi.mono hB1.size)
                    have hG2 := hG1.below bi hG1.lt
                    clear hM m0 m1 m2 m3 hL1 hB1 hG1 bi
                    have m0 := hM2.c0
                    have m1 := hM2.c1
                    go_wp2_with fail
                    go_region_held3 (fun w' => w'.cell? ⟨p13, 0, none⟩ = some (.string s4) ∧ w'.cell? ⟨p13, 1, none⟩ = some (.int .i64 0) ∧ TmB w' p13 s4 0 false s1 ∧ Below w0.heap.size w0 w')
                      (first | exact ⟨m0, m1, hM2.drew', hB2.drew⟩ | exact ⟨hM3.c0, hM3.c1, hM3, hB3⟩ | exact ⟨hM4.c0, hM4.c1, hM4, hB4⟩ | exact ⟨hM5.c0, hM5.c1, hM5, hB5⟩ | assumption)
                      (first
                        | (go_at_call 82; (with_reducible refine (HD4.out _).mono ?_); rintro e wa ⟨rfl, ba⟩; have hM3 := hM2.drew'.below ba hM2.lt; have hB3 := hB2.drew.trans (ba.mono hB2.size); have hL3 := hL2.drew.below ba (Nat.le_refl _); have hG3 := hG2.drew'.below ba hG2.lt)
                        | (go_at_call 83; (with_reducible refine (itoa0 _).mono ?_); rintro e wb ⟨rfl, bb'⟩; have hM4 : TmB wb p13 s4 0 false s1 := bb' ▸ hM3; have hB4 : Below w0.heap.size w0 wb := bb' ▸ hB3; have hL4 : Bld 151 wb bb exT2 := bb' ▸ hL3; have hG4 : QB wb p11 0 s18 (.slice (some ⟨t, tt, none⟩) 1 tc) := bb' ▸ hG3)
                        | (go_at_call 81; (with_reducible refine (W3.out _ hL4).mono ?_); rintro e wd ⟨rfl, hL5, bc, oc⟩; have hM5 := hM4.oth oc hne2; have hB5 := hB4.trans (bc.mono hwl); have hG5 := hG4.oth oc hne))
                    all_goals
                      go_split_ands
                      clear hM3 hM4 hL3 hL4 hB3 hB4 hG3 hG4
                      go_wp2_with fail
                      exact ⟨⟨.inr ⟨rfl, hL5⟩, hG5, hB5⟩, by simp [intOf]⟩
                  · have c2 := hG.c2
                    go_wp2_with fail
                    refine (W4.out _ hL).mono ?_; rintro e wd ⟨rfl, hL4, bc, oc⟩
                    have hB4 := hB.trans (bc.mono hwl)
                    clear hL hG hB c2
                    go_wp2_with fail
                    exact ⟨⟨.inr ⟨rfl, hL4⟩, hB4⟩, by simp [intOf]⟩
            · have hbf := hb.trans (hB.mono hb.size)
              have hLe := Lib.hid (Len_any 151 bb exT4 wr hL)
              rw [HLN.out] at hLe
              have hSt := Lib.hid (String_any 151 bb exT4 wr hL HNE.out)
              rw [HRR.out] at hSt
              have hb2 := hb.size
              clear hL W4 HLN HNE
              go_wp2_with fail
              refine hLe.out.mono ?_; rintro e w5 ⟨rfl, rfl⟩
              go_wp2_with fail
              refine hSt.out.mono ?_; rintro e w6 ⟨rfl, b6⟩
              go_wp2_with fail
              go_ret2
              exact ⟨rfl, hbf.trans (b6.mono (by omega))⟩
end Go.Proofs.YtdhhbjmkdmbffaaGreatDoor

/- The law's helpers num, whole, example, awake. -/
namespace Go.Proofs.YtdhhbjmkdmbffaaGreatDoor
open Go.RowKit Num
set_option maxRecDepth 20000
set_option linter.unusedVariables false
theorem refOfNegL (n : Nat) (x : Int) (w : World) (hx : x = -(n : Int)) (hn : n < 65536) :
    Calls Tryz.prog 80 #[.int .i64 x] w fun e w' => e = .returned (.agg #[.bool (decide (0 < n)), .string (enc n)]) ∧ Below w.heap.size w w' := by
  rcases Nat.eq_zero_or_pos n with h0 | h0
  · subst h0
    obtain rfl : x = 0 := by omega
    rw [enc_zero]
    clear hx hn
    go_enter Tryz.func80, Tryz.ntmps80
    go_wp2_with fail
    have r1 := RBox.new w
    have b1 := (Below.refl _ w).alloc (Nat.le_refl _) (.cells #[.bool false, .string ⟨#[]⟩] 36)
    generalize w.alloc _ = w1 at r1 b1 ⊢
    refine (refOf_any 0 _ (by omega)).mono ?_; rw [enc_zero]; rintro e w2 ⟨rfl, b2⟩
    have r2 := r1.below b2 r1.lt
    replace b1 := bbl b1 b2
    go_wp2_with fail
    refine (refMake_any false ⟨#[]⟩ _).mono ?_; rintro e w3 ⟨rfl, b3⟩
    have r3 := r2.below b3 r2.lt
    replace b1 := bbl b1 b3
    have f0 := r3.f0
    have f1 := r3.f1
    have c0 := r3.c0
    have c1 := r3.c1
    go_wp2_with fail
    refine bodyPost_int rfl rfl (put2 r3) rfl ⟨rfl, ?_⟩
    exact (b1.setCell (p := ⟨w.heap.size, 0, none⟩) (Nat.le_refl _) _).setCell (p := ⟨w.heap.size, 1, none⟩) (Nat.le_refl _) _
  · obtain ⟨k, rfl⟩ : ∃ k, n = k + 1 := ⟨n - 1, by omega⟩
    have d1 : decide (x < 0) = true := decide_eq_true (by omega)
    have q1 : x + 1 = -(k : Int) := by omega
    have ne := toList_enc_nil h0
    have HQ := Lib.hid q1
    have hx1 : -65536 ≤ x := by omega
    have hx2 : x < 0 := by omega
    clear q1 hx
    go_enter Tryz.func80, Tryz.ntmps80
    go_wp2_with fail
    have r1 := RBox.new w
    have b1 := (Below.refl _ w).alloc (Nat.le_refl _) (.cells #[.bool false, .string ⟨#[]⟩] 36)
    generalize w.alloc _ = w1 at r1 b1 ⊢
    rw [show -(x + 1) + 1 = ((k + 1 : Nat) : Int) by have := HQ.out; omega]
    refine (refOf_any (k + 1) _ (by omega)).mono ?_; rintro e w2 ⟨rfl, b2⟩
    have r2 := r1.below b2 r1.lt
    replace b1 := bbl b1 b2
    go_wp2_with fail
    refine (refMake_any true (enc (k + 1)) _).mono ?_; rw [ne]; rintro e w3 ⟨rfl, b3⟩
    have r3 := r2.below b3 r2.lt
    replace b1 := bbl b1 b3
    have f0 := r3.f0
    have f1 := r3.f1
    have c0 := r3.c0
    have c1 := r3.c1
    go_wp2_with fail
    refine bodyPost_int rfl rfl (put2 r3) rfl ⟨by rw [decide_eq_true h0], ?_⟩
    exact (b1.setCell (p := ⟨w.heap.size, 0, none⟩) (Nat.le_refl _) _).setCell (p := ⟨w.heap.size, 1, none⟩) (Nat.le_refl _) _
theorem num_any (n : Nat) (w : World) (hn : n < 256) : Calls Tryz.prog 79 #[.int .u64 (n : Int)] w fun e w' => e = .returned (.string (enc n)) ∧ Below w.heap.size w w' := by
  have H := Lib.hid (fun w => refOf_any n w (by omega))
  go_enter Tryz.func79, Tryz.ntmps79
  go_wp2_with fail
  refine (H.out _).mono ?_; rintro e w1 ⟨rfl, b1⟩
  go_wp2_with fail
  go_ret
  exact ⟨rfl, b1⟩
/-- the integer of a number with a sign -/
theorem whole_of (x : Int) (g : Bool) (s : ByteArray) (w : World) (H : ∀ w, Calls Tryz.prog 80 #[.int .i64 x] w fun e w' => e = .returned (.agg #[.bool g, .string s]) ∧ Below w.heap.size w w') :
    Calls Tryz.prog 38 #[.int .i64 x] w fun e w' => e = .returned (.agg #[.bool g, .string s]) ∧ Below w.heap.size w w' := by
  have H := Lib.hid H
  have r1 := RBox.new w
  have b1 := (Below.refl _ w).alloc (Nat.le_refl _) (.cells #[.bool false, .string ⟨#[]⟩] 36)
  go_enter Tryz.func38, Tryz.ntmps38
  go_wp2_with fail
  generalize w.alloc _ = w1 at r1 b1 ⊢
  refine (H.out _).mono ?_; rintro e w2 ⟨rfl, b2⟩
  have r2 := r1.below b2 r1.lt
  replace b1 := b1.trans (b2.mono b1.size)
  have f0 := r2.f0
  have f1 := r2.f1
  have c0 := r2.c0
  have c1 := r2.c1
  go_wp2_with fail
  refine bodyPost_int rfl rfl (put2 r2) rfl ⟨rfl, ?_⟩
  exact (b1.setCell (p := ⟨w.heap.size, 0, none⟩) (Nat.le_refl _) _).setCell (p := ⟨w.heap.size, 1, none⟩) (Nat.le_refl _) _
theorem whole_nat (n : Nat) (w : World) (hn : n < 256) : Calls Tryz.prog 38 #[.int .i64 (n : Int)] w fun e w' => e = .returned (.agg #[.bool false, .string (enc n)]) ∧ Below w.heap.size w w' :=
  whole_of n false (enc n) w fun w => (ref2Of_z n w (by omega)).mono fun e w' ⟨h1, h2⟩ => ⟨by rw [h1, show zb (n : Int) = false from decide_eq_false (by omega)]; rfl, h2⟩
theorem whole_neg (w : World) : Calls Tryz.prog 38 #[.int .i64 (-8)] w fun e w' => e = .returned (.agg #[.bool true, .string (enc 8)]) ∧ Below w.heap.size w w' :=
  whole_of (-8) true (enc 8) w fun w => (refOfNegL 8 (-8) w rfl (by omega)).mono fun e w' ⟨h1, h2⟩ => ⟨by rw [h1]; rfl, h2⟩
/-- a statement's variable -/
def STZ (w : World) (b : Nat) (v0 v1 v2 : Value) : Prop := w.heap[b]? = some (.cells #[v0, v1, v2] 49 (0, 0))
section
variable {W w w' : World} {b K : Nat} {v0 v1 v2 : Value}
theorem STZ.lt (h : STZ w b v0 v1 v2) : b < w.heap.size := (Array.getElem?_eq_some_iff.1 h).1
theorem STZ.c0 (h : STZ w b v0 v1 v2) : w.cell? ⟨b, 0, none⟩ = some v0 := by rw [Lib.cell_of_heap h]; rfl
theorem STZ.c1 (h : STZ w b v0 v1 v2) : w.cell? ⟨b, 1, none⟩ = some v1 := by rw [Lib.cell_of_heap h]; rfl
theorem STZ.c2 (h : STZ w b v0 v1 v2) : w.cell? ⟨b, 2, none⟩ = some v2 := by rw [Lib.cell_of_heap h]; rfl
theorem STZ.f (h : STZ w b v0 v1 v2) (j : Nat) : w.frozen? ⟨b, j, none⟩ = false := Lib.frozen_of_heap h j
theorem STZ.new (w : World) (v0 v1 v2 : Value) : STZ (w.alloc (.cells #[v0, v1, v2] 49)) w.heap.size v0 v1 v2 := heap_alloc_new w _
theorem STZ.below (h : STZ w b v0 v1 v2) (hb : Below K w w') (hK : b < K) : STZ w' b v0 v1 v2 := (hb.block b hK).trans h
theorem put3L {a0 a1 a2 : Value} {t : TypeId} (h : W.heap[b]? = some (.cells #[a0, a1, a2] t (0, 0))) :
    (((W.setCell ⟨b, 0, none⟩ v0).setCell ⟨b, 1, none⟩ v1).setCell ⟨b, 2, none⟩ v2).heap[b]? = some (.cells #[v0, v1, v2] t (0, 0)) := put1 (put1 (put1 h))
theorem info_stm : (Tryz.prog.info? 49).map (·.size) = some 3 := by kernel_rfl
theorem bodyPost_st {fn : Func} {R : Ending → World → Prop} {p : Tmp} {a : Act} (h : fn.results = #[.cell p 49]) (hp : a.tmps.getD p undef = .pointer (some ⟨b, 0, none⟩))
    (hb : STZ W b v0 v1 v2) (hd : a.defers = []) (hR : R (.returned (.agg #[v0, v1, v2])) W) : bodyPost Tryz.prog fn R Exit.ret a W :=
  bodyPost_ret (results_cell_row h _ _ b 49 #[v0, v1, v2] (0, 0) _ hp hb Tryz.underlying49 rfl info_stm) hd hR
end
set_option maxHeartbeats 8000000 in
theorem ex_any (n : Nat) (w : World) (hn : n < 256) :
    Calls Tryz.prog 37 #[.int .u64 (n : Int)] w fun e w' => ∃ (a : StA) (ta : Option Addr) (tc : Nat) (S : StM), exS (enc n) ta tc = S ∧ e = .returned (.agg #[.slice a.ga S.G.length a.gc, .slice a.va S.V.length a.vc, .slice a.qa S.Q.length a.qc]) ∧ SS w' a S ∧ Below w.heap.size w w' := by
  have N23 := Lib.hid (fun w => num_any 23 w (by omega))
  have N11 := Lib.hid (fun w => num_any 11 w (by omega))
  have NN := Lib.hid (fun w => num_any n w hn)
  have N18 := Lib.hid (fun w => num_any 18 w (by omega))
  have N4 := Lib.hid (fun w => num_any 4 w (by omega))
  have W1 := Lib.hid (fun w => whole_nat 1 w (by omega))
  unfold exS
  obtain ⟨s23, h23⟩ : ∃ s, enc 23 = s := ⟨_, rfl⟩
  obtain ⟨s11, h11⟩ : ∃ s, enc 11 = s := ⟨_, rfl⟩
  obtain ⟨sn, hsn⟩ : ∃ s, enc n = s := ⟨_, rfl⟩
  obtain ⟨s18, h18⟩ : ∃ s, enc 18 = s := ⟨_, rfl⟩
  obtain ⟨s4, h4⟩ : ∃ s, enc 4 = s := ⟨_, rfl⟩
  obtain ⟨s1, h1⟩ : ∃ s, enc 1 = s := ⟨_, rfl⟩
  rw [h23] at N23 ⊢
  rw [h11] at N11 ⊢
  rw [hsn] at NN ⊢
  rw [h18] at N18 ⊢
  rw [h4] at N4 ⊢
  rw [h1] at W1 ⊢
  clear h23 h11 hsn h18 h4 h1 hn
  have z0 := STZ.new w (.slice none 0 0) (.slice none 0 0) (.slice none 0 0)
  have b0 := (Below.refl _ w).alloc (Nat.le_refl _) (.cells #[.slice none 0 0, .slice none 0 0, .slice none 0 0] 49)
  go_enter Tryz.func37, Tryz.ntmps37
  go_wp2_with fail
  generalize hw0 : World.alloc w _ = w0 at z0 b0 ⊢
  clear hw0
  refine (N23.out _).mono ?_; rintro e w1 ⟨rfl, k1⟩
  have z1 := z0.below k1 z0.lt
  have b1 := b0.trans (k1.mono b0.size)
  clear z0 b0 k1
  go_wp2_with fail
  refine (N11.out _).mono ?_; rintro e w2 ⟨rfl, k2⟩
  have z2 := z1.below k2 z1.lt
  have b2 := b1.trans (k2.mono b1.size)
  have k3 := (Below.refl _ w2).alloc (Nat.le_refl _) (.cells #[.string s23, .string s11] 27)
  have g3 := GB.new w2 s23 s11
  have z3 := z2.below k3 z2.lt
  have b3 := b2.trans (k3.mono b2.size)
  have hpg : w.heap.size < w2.heap.size := z2.lt
  clear z1 b1 k2 z2 b2 k3
  go_wp2_with fail
  generalize w2.heap.size = pg at g3 hpg ⊢
  generalize hw3 : World.alloc w2 _ = w3 at g3 z3 b3 ⊢
  clear hw3
  refine (NN.out _).mono ?_; rintro e w4 ⟨rfl, k4⟩
  have z4 := z3.below k4 z3.lt
  have g4 := g3.below k4 g3.lt
  have b4 := b3.trans (k4.mono b3.size)
  have k5 := (Below.refl _ w4).alloc (Nat.le_refl _) (.cells #[.string sn] 40)
  have v5 := VrB.new w4 sn
  have z5 := z4.below k5 z4.lt
  have g5 := g4.below k5 g4.lt
  have b5 := b4.trans (k5.mono b4.size)
  have hpv : w.heap.size < w4.heap.size := z4.lt
  clear z3 g3 b3 k4 z4 g4 b4 k5
  go_wp2_with fail
  generalize w4.heap.size = pv at v5 hpv ⊢
  generalize hw5 : World.alloc w4 _ = w5 at v5 z5 g5 b5 ⊢
  clear hw5
  refine (N18.out _).mono ?_; rintro e w6 ⟨rfl, k6⟩
  have z6 := z5.below k6 z5.lt
  have g6 := g5.below k6 g5.lt
  have v6 := v5.below k6 v5.lt
  have b6 := b5.trans (k6.mono b5.size)
  clear z5 g5 v5 b5 k6
  go_wp2_with fail
  refine (N4.out _).mono ?_; rintro e w7 ⟨rfl, k7⟩
  have z7 := z6.below k7 z6.lt
  have g7 := g6.below k7 g6.lt
  have v7 := v6.below k7 v6.lt
  have b7 := b6.trans (k7.mono b6.size)
  clear z6 g6 v6 b6 k7
  go_wp2_with fail
  refine (W1.out _).mono ?_; rintro e w8 ⟨rfl, k8⟩
  have z8 := z7.below k8 z7.lt
  have g8 := g7.below k8 g7.lt
  have v8 := v7.below k8 v7.lt
  have b8 := b7.trans (k8.mono b7.size)
  clear z7 g7 v7 b7 k8
  have hp8 : w.heap.size < w8.heap.size := z8.lt
  have k9 := (Below.refl _ w8).alloc (Nat.le_refl _) (.cells #[.string s4, .int .i64 0, .bool false, .string s1] 43)
  have t9 := TmB.new w8 s4 0 false s1
  have k10 := k9.alloc (by simp) (.cells #[.int .i64 0, .string s18, .slice (some ⟨w8.heap.size, 0, none⟩) 1 1] 46)
  have t10 := t9.below ((Below.refl _ (w8.alloc (.cells #[.string s4, .int .i64 0, .bool false, .string s1] 43))).alloc (Nat.le_refl _) (.cells #[.int .i64 0, .string s18, .slice (some ⟨w8.heap.size, 0, none⟩) 1 1] 46)) t9.lt
  have q10 := QB.new (w8.alloc (.cells #[.string s4, .int .i64 0, .bool false, .string s1] 43)) 0 s18 (.slice (some ⟨w8.heap.size, 0, none⟩) 1 1)
  rw [World.size_alloc] at q10
  have z10 := z8.below k10 z8.lt
  have g10 := g8.below k10 g8.lt
  have v10 := v8.below k10 v8.lt
  have b10 := b8.trans (k10.mono b8.size)
  have c0 := z10.c0
  have c1 := z10.c1
  have c2 := z10.c2
  have f0 := z10.f 0
  have f1 := z10.f 1
  have f2 := z10.f 2
  have hzA : (w8.alloc (.cells #[.string s4, .int .i64 0, .bool false, .string s1] 43)).heap.size = w8.heap.size + 1 := by simp
  clear z8 g8 v8 b8 k9 k10 t9
  obtain ⟨wA, hA⟩ : ∃ W, w8.alloc (.cells #[.string s4, .int .i64 0, .bool false, .string s1] 43) = W := ⟨_, rfl⟩
  rw [hA] at t10 q10 z10 g10 v10 b10 c0 c1 c2 f0 f1 f2 hzA
  obtain ⟨w10, hw10⟩ : ∃ W, wA.alloc (.cells #[.int .i64 0, .string s18, .slice (some ⟨w8.heap.size, 0, none⟩) 1 1] 46) = W := ⟨_, rfl⟩
  rw [hw10] at t10 q10 z10 g10 v10 b10 c0 c1 c2 f0 f1 f2
  go_wp2_with fail
  clear hA hw10 hzA
  generalize w8.heap.size = p8 at t10 q10 hp8 ⊢
  have hW : ∀ b, b ≠ w.heap.size → (((w10.setCell ⟨w.heap.size, 0, none⟩ (.slice (some ⟨pg, 0, none⟩) 1 1)).setCell ⟨w.heap.size, 1, none⟩ (.slice (some ⟨pv, 0, none⟩) 1 1)).setCell ⟨w.heap.size, 2, none⟩ (.slice (some ⟨p8 + 1, 0, none⟩) 1 1)).heap[b]? = w10.heap[b]? := fun b hb => by
    rw [Below.heap_setCell _ _ _ _ hb, Below.heap_setCell _ _ _ _ hb, Below.heap_setCell _ _ _ _ hb]
  have gW : GB _ pg s23 s11 := (hW pg (by omega)).trans g10
  have vW : VrB _ pv sn := (hW pv (by omega)).trans v10
  have tW : TmB _ p8 s4 0 false s1 := (hW p8 (by omega)).trans t10
  have qW : QB _ (p8 + 1) 0 s18 (.slice (some ⟨p8, 0, none⟩) 1 1) := (hW (p8 + 1) (by omega)).trans q10
  have hz : STZ _ w.heap.size (.slice (some ⟨pg, 0, none⟩) 1 1) (.slice (some ⟨pv, 0, none⟩) 1 1) (.slice (some ⟨p8 + 1, 0, none⟩) 1 1) := put3L z10
  refine bodyPost_st rfl rfl hz rfl ?_
  refine ⟨⟨some ⟨pg, 0, none⟩, 1, some ⟨pv, 0, none⟩, 1, some ⟨p8 + 1, 0, none⟩, 1⟩, some ⟨p8, 0, none⟩, 1, _, rfl, rfl, ⟨fun k hk => ?_, fun k hk => ?_, fun k hk => ?_⟩, ((b10.setCell (p := ⟨w.heap.size, 0, none⟩) (Nat.le_refl _) _).setCell (p := ⟨w.heap.size, 1, none⟩) (Nat.le_refl _) _).setCell (p := ⟨w.heap.size, 2, none⟩) (Nat.le_refl _) _⟩
  · obtain rfl : k = 0 := by simp at hk; omega
    exact ⟨pg, 0, rfl, gW.c0, gW.c1⟩
  · obtain rfl : k = 0 := by simp at hk; omega
    exact ⟨pv, 0, rfl, vW.c0⟩
  · obtain rfl : k = 0 := by simp at hk; omega
    refine ⟨p8 + 1, 0, rfl, qW.c0, qW.c1, qW.c2, fun k hk => ?_⟩
    obtain rfl : k = 0 := by simp at hk; omega
    exact ⟨p8, 0, rfl, tW.c0, tW.c1, tW.c2, tW.c3⟩
/-- what Holds answers at the examples -/
theorem ex_rd0 (ta : Option Addr) (tc : Nat) (n : Nat) (hn : n = 0 ∨ n = 4 ∨ n = 9) (x : Bool × ByteArray) (hx : x = (false, enc 3) ∨ x = (false, enc 4) ∨ x = (true, enc 8)) : rdE (exS (enc n) ta tc).pl [x] = 0 := by
  rw [exS_pl]
  rcases hn with rfl | rfl | rfl <;> rcases hx with rfl | rfl | rfl <;> decide +kernel
theorem ex_h1 (ta : Option Addr) (tc : Nat) : hldS (exS (enc 0) ta tc).pl [(false, enc 3)] = true := by rw [exS_pl]; decide +kernel
theorem ex_h2 (ta : Option Addr) (tc : Nat) : hldS (exS (enc 0) ta tc).pl [(false, enc 4)] = false := by rw [exS_pl]; decide +kernel
theorem ex_h3 (ta : Option Addr) (tc : Nat) : hldS (exS (enc 9) ta tc).pl [(true, enc 8)] = true := by rw [exS_pl]; decide +kernel
theorem ex_h4 (ta : Option Addr) (tc : Nat) : hldS (exS (enc 4) ta tc).pl [(true, enc 8)] = false := by rw [exS_pl]; decide +kernel
theorem is_oneL (w : World) (ng : Bool) (t : ByteArray) : IS (w.alloc (.cells #[.bool ng, .string t] 36)) (some ⟨w.heap.size, 0, none⟩) [(ng, t)] := fun k hk => by
  obtain rfl : k = 0 := by simp at hk; omega
  exact ⟨w.heap.size, 0, rfl, (IBL.new w ng t).c0, (IBL.new w ng t).c1⟩
theorem hold_ex (a : StA) (ta : Option Addr) (tc n : Nat) (S : StM) (bo : Option Addr) (x : Bool × ByteArray) (V : Bool) (w : World) (hSe : exS (enc n) ta tc = S) (hS : SS w a S) (hI : IS w bo [x]) (hn : n = 0 ∨ n = 4 ∨ n = 9) (hx : x = (false, enc 3) ∨ x = (false, enc 4) ∨ x = (true, enc 8))
    (hv : hldS (exS (enc n) ta tc).pl [x] = V) :
    Calls Tryz.prog 22 #[.agg #[.slice a.ga S.G.length a.gc, .slice a.va S.V.length a.vc, .slice a.qa S.Q.length a.qc], .slice bo 1 1] w fun e w' => e = .returned (.tuple #[.bool V, .int .i64 0]) ∧ Below w.heap.size w w' := by
  have h1 : (enc 1).size ≤ 8 := by rw [size_enc]; decide
  have hx2 : x.2.size ≤ 32 := by rcases hx with rfl | rfl | rfl <;> (simp only [size_enc]; decide)
  have hok : S.ok := by rw [← hSe]; exact exS_ok n (by omega) ta tc
  have hz : SmS S [x] := by
    rw [← hSe]
    refine ⟨fun q hq => ?_, fun y hy => ?_⟩
    · simp [exS] at hq; subst hq
      intro t ht
      simp [eqp] at ht; subst ht
      exact h1
    · simp at hy; subst hy; exact hx2
  have h := holds_any a S bo 1 1 [x] w hS hok hI rfl (by unfold maxLen; omega) hz
  rw [← hSe] at h ⊢
  rw [hv, ex_rd0 ta tc n hn x hx] at h
  exact h
set_option maxHeartbeats 8000000 in
theorem awakeL (w : World) : Calls Tryz.prog 16 #[] w fun e w' => e = .returned (.bool true) ∧ Below w.heap.size w w' := by
  have E0 := Lib.hid (fun w => ex_any 0 w (by omega))
  have E9 := Lib.hid (fun w => ex_any 9 w (by omega))
  have E4 := Lib.hid (fun w => ex_any 4 w (by omega))
  have I3 := Lib.hid (fun w => whole_nat 3 w (by omega))
  have I4 := Lib.hid (fun w => whole_nat 4 w (by omega))
  have I8 := Lib.hid whole_neg
  have H1 := Lib.hid (fun a ta tc S bo w h1 h2 h3 => hold_ex a ta tc 0 S bo (false, enc 3) true w h1 h2 h3 (by omega) (.inl rfl) (ex_h1 ta tc))
  have H2 := Lib.hid (fun a ta tc S bo w h1 h2 h3 => hold_ex a ta tc 0 S bo (false, enc 4) false w h1 h2 h3 (by omega) (.inr (.inl rfl)) (ex_h2 ta tc))
  have H3 := Lib.hid (fun a ta tc S bo w h1 h2 h3 => hold_ex a ta tc 9 S bo (true, enc 8) true w h1 h2 h3 (by omega) (.inr (.inr rfl)) (ex_h3 ta tc))
  have H4 := Lib.hid (fun a ta tc S bo w h1 h2 h3 => hold_ex a ta tc 4 S bo (true, enc 8) false w h1 h2 h3 (by omega) (.inr (.inr rfl)) (ex_h4 ta tc))
  have HT := Lib.hid (fun a ta tc S w h1 h2 => text_ex a ta tc S w h1 h2)
  have hte : str exT4 = ⟨#[103, 114, 111, 117, 112, 32, 50, 51, 32, 49, 49, 10, 118, 97, 114, 105, 97, 98, 108, 101, 32, 48, 10, 101, 113, 117, 97, 116, 105, 111, 110, 32, 48, 32, 49, 56, 32, 61, 32, 52, 94, 49, 42, 119, 48, 10]⟩ := by decide +kernel
  rw [hte] at HT
  obtain ⟨X0, h0⟩ : ∃ f, (fun ta tc => exS (enc 0) ta tc) = f := ⟨_, rfl⟩
  obtain ⟨X4, h4⟩ : ∃ f, (fun ta tc => exS (enc 4) ta tc) = f := ⟨_, rfl⟩
  obtain ⟨X9, h9⟩ : ∃ f, (fun ta tc => exS (enc 9) ta tc) = f := ⟨_, rfl⟩
  have g0 : ∀ ta tc, exS (enc 0) ta tc = X0 ta tc := fun ta tc => by rw [← h0]
  have g4 : ∀ ta tc, exS (enc 4) ta tc = X4 ta tc := fun ta tc => by rw [← h4]
  have g9 : ∀ ta tc, exS (enc 9) ta tc = X9 ta tc := fun ta tc => by rw [← h9]
  simp only [g0] at E0 H1 H2 HT
  simp only [g4] at E4 H4
  simp only [g9] at E9 H3
  obtain ⟨s3, k3⟩ : ∃ s, enc 3 = s := ⟨_, rfl⟩
  obtain ⟨s4, k4⟩ : ∃ s, enc 4 = s := ⟨_, rfl⟩
  obtain ⟨s8, k8⟩ : ∃ s, enc 8 = s := ⟨_, rfl⟩
  simp only [k3] at I3 H1
  simp only [k4] at I4 H2
  simp only [k8] at I8 H3 H4
  clear hte h0 h4 h9 g0 g4 g9 k3 k4 k8
  go_enter Tryz.func16, Tryz.ntmps16
  go_wp2_with fail
  refine (E0.out _).mono ?_; rintro e w1 ⟨a, ta, tc, S, hSe, rfl, hS, b1⟩
  go_wp2_with fail
  refine (I3.out _).mono ?_; rintro e w2 ⟨rfl, b2⟩
  have b12 := b1.trans (b2.mono b1.size)
  have k := (Below.refl _ w2).alloc (Nat.le_refl _) (.cells #[.bool false, .string s3] 36)
  have b13 := b12.trans (k.mono b12.size)
  have HH := Lib.hid (H1.out a ta tc S (some ⟨w2.heap.size, 0, none⟩) (w2.alloc (.cells #[.bool false, .string s3] 36)) hSe ((hS.below b2 (Nat.le_refl _)).below k (Nat.le_refl _)) (is_oneL w2 false s3))
  clear b1 b2 b12 k hS hSe
  go_wp2_with fail
  refine HH.out.mono ?_; rintro e w3 ⟨rfl, b3⟩
  have hb := b13.trans (b3.mono b13.size)
  clear HH b3 b13 H1 I3
  go_wp2_with fail
  refine (E0.out _).mono ?_; rintro e w1 ⟨a, ta, tc, S, hSe, rfl, hS, b1⟩
  replace hb := hb.trans (b1.mono hb.size)
  go_wp2_with fail
  refine (I4.out _).mono ?_; rintro e w2 ⟨rfl, b2⟩
  replace hb := hb.trans (b2.mono hb.size)
  have k := (Below.refl _ w2).alloc (Nat.le_refl _) (.cells #[.bool false, .string s4] 36)
  replace hb := hb.trans (k.mono hb.size)
  have HH := Lib.hid (H2.out a ta tc S (some ⟨w2.heap.size, 0, none⟩) (w2.alloc (.cells #[.bool false, .string s4] 36)) hSe ((hS.below b2 (Nat.le_refl _)).below k (Nat.le_refl _)) (is_oneL w2 false s4))
  clear b1 b2 k hS hSe
  go_wp2_with fail
  refine HH.out.mono ?_; rintro e w3 ⟨rfl, b3⟩
  replace hb := hb.trans (b3.mono hb.size)
  clear HH b3 H2 I4
  go_wp2_with fail
  refine (E9.out _).mono ?_; rintro e w1 ⟨a, ta, tc, S, hSe, rfl, hS, b1⟩
  replace hb := hb.trans (b1.mono hb.size)
  go_wp2_with fail
  refine (I8.out _).mono ?_; rintro e w2 ⟨rfl, b2⟩
  replace hb := hb.trans (b2.mono hb.size)
  have k := (Below.refl _ w2).alloc (Nat.le_refl _) (.cells #[.bool true, .string s8] 36)
  replace hb := hb.trans (k.mono hb.size)
  have HH := Lib.hid (H3.out a ta tc S (some ⟨w2.heap.size, 0, none⟩) (w2.alloc (.cells #[.bool true, .string s8] 36)) hSe ((hS.below b2 (Nat.le_refl _)).below k (Nat.le_refl _)) (is_oneL w2 true s8))
  clear b1 b2 k hS hSe
  go_wp2_with fail
  refine HH.out.mono ?_; rintro e w3 ⟨rfl, b3⟩
  replace hb := hb.trans (b3.mono hb.size)
  clear HH b3 H3
  go_wp2_with fail
  refine (E4.out _).mono ?_; rintro e w1 ⟨a, ta, tc, S, hSe, rfl, hS, b1⟩
  replace hb := hb.trans (b1.mono hb.size)
  go_wp2_with fail
  refine (I8.out _).mono ?_; rintro e w2 ⟨rfl, b2⟩
  replace hb := hb.trans (b2.mono hb.size)
  have k := (Below.refl _ w2).alloc (Nat.le_refl _) (.cells #[.bool true, .string s8] 36)
  replace hb := hb.trans (k.mono hb.size)
  have HH := Lib.hid (H4.out a ta tc S (some ⟨w2.heap.size, 0, none⟩) (w2.alloc (.cells #[.bool true, .string s8] 36)) hSe ((hS.below b2 (Nat.le_refl _)).below k (Nat.le_refl _)) (is_oneL w2 true s8))
  clear b1 b2 k hS hSe
  go_wp2_with fail
  refine HH.out.mono ?_; rintro e w3 ⟨rfl, b3⟩
  replace hb := hb.trans (b3.mono hb.size)
  clear HH b3 H4 I8
  go_wp2_with fail
  refine (E0.out _).mono ?_; rintro e w1 ⟨a, ta, tc, S, hSe, rfl, hS, b1⟩
  replace hb := hb.trans (b1.mono hb.size)
  have HH := Lib.hid (HT.out a ta tc S w1 hSe hS)
  clear b1 hS hSe
  go_wp2_with fail
  refine HH.out.mono ?_; rintro e w3 ⟨rfl, b3⟩
  replace hb := hb.trans (b3.mono hb.size)
  clear HH b3
  go_wp2_with fail
  go_ret
  exact ⟨rfl, hb⟩
end Go.Proofs.YtdhhbjmkdmbffaaGreatDoor
