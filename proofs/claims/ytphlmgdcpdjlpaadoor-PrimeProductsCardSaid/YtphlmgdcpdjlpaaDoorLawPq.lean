/- dominolaw04: the walk of PrimeProducts. -/
import Derived.Test.YtphlmgdcpdjlpaaDoorLawPr
import Derived.Test.YtphlmgdcpdjlpaaDoorFacQ
namespace Go.Proofs.YtphlmgdcpdjlpaaDoor
open Go.RowKit Num
set_option maxRecDepth 20000
set_option linter.unusedVariables false
theorem isS_prime {x : Nat} (h : IsP x) (hx : x < 18446744073709551616) : isS (enc x) = true ∧ smE (enc x) = 0 := by
  have h8 : blen x ≤ 8 := (blen_le_iff x 8).2 (by omega)
  have hv : validB (enc x) = true := (IsN.mk' (show blen x ≤ 128 by omega)).valid
  have hs : (enc x).size ≤ 8 := by rw [size_enc]; exact h8
  constructor
  · unfold isS okN
    rw [hv, decide_eq_true hs, nv_enc, h.isB]; rfl
  · unfold smE
    rw [if_pos hv, if_pos hs]
theorem pairwise_le {l : List Nat} (h : l.Pairwise (· ≤ ·)) {k : Nat} (hk : k + 1 < l.length) : l[k] ≤ l[k + 1] :=
  (List.pairwise_iff_getElem.1 h) k (k + 1) (by omega) hk (by omega)
/-- the product and the last factor before round k -/
def lastF (l : List Nat) : Nat → Nat
  | 0 => 0
  | k + 1 => l.getD k 0
set_option maxHeartbeats 8000000 in
theorem products_walk (N : Nat) (w : World) (hN : N < 18446744073709551616) (hT : Tab w) :
    Calls Tryd.prog 11 #[.int .u64 (N : Int)] w fun e w' => e = .returned (.bool true) ∧ Below w.heap.size w w' := by
  obtain ⟨n, hn⟩ : ∃ n, N % 1099511627775 + 1 = n := ⟨_, rfl⟩
  have hn1 : 1 ≤ n := by omega
  have hnu : n < 1099511627776 := by omega
  have M2 : Hid ((N : Int) % 1099511627775 + 1 = (n : Int)) := by show _ = _; omega
  obtain ⟨l, hl⟩ := fac_all n hn1
  obtain ⟨g1, g2, g3⟩ := hl.good hn1 (by omega) (fun d h _ => h)
  have gm := hl.mem_le hn1 (by omega)
  have hlen := hl.len hn1 (by omega)
  have hl40 : l.length ≤ 40 := by
    rcases Nat.lt_or_ge 40 l.length with h | h
    · have h1 : 2 ^ 41 ≤ 2 ^ l.length := Nat.pow_le_pow_right (by omega) h
      omega
    · exact h
  have hv : nv (enc n) = n := nv_enc n
  have hb5 : blen n ≤ 8 := (blen_le_iff n 8).2 (by omega)
  have hF := prFactors_ok (enc n) l
  rw [hv] at hF
  have HF := Lib.hid (fun w => hF w (IsN.mk' (by omega)) (by rw [size_enc]; exact hb5) hn1 hnu hl)
  have HG := Lib.hid (And.intro g1 (And.intro g2 g3))
  have HM := Lib.hid gm
  have HU := Lib.hid (And.intro hn1 hnu)
  clear hl g1 g2 g3 gm hlen hF hv hb5 hn hN
  go_enter Tryd.func11, Tryd.ntmps11
  go_wp2_with fail
  rw [M2.out]
  refine (ref4Of_any n _ (by have := HU.out; omega)).mono ?_
  rintro e w1 ⟨rfl, b1⟩
  go_wp2_with fail
  refine (HF.out _).mono ?_
  rintro e w2 ⟨⟨v2, rfl, hs⟩, b2⟩
  replace b2 := b1.trans (b2.mono b1.size)
  obtain ⟨a2, c2, rfl, HS⟩ := hs.form
  have HL : Hid (∀ k (hk : k < l.length), ∃ b, a2 = some ⟨b, 0, none⟩ ∧ b < w2.heap.size ∧ w2.cell? ⟨b, k, none⟩ = some (.string (enc l[k]))) := fun k hk => by
    obtain ⟨b, q1, q2, q3⟩ := HS.out k (by rw [List.length_map]; exact hk)
    exact ⟨b, q1, q2, by rw [q3, List.getElem_map]⟩
  clear hs HS b1
  obtain ⟨m, hm⟩ : ∃ m, l.length = m := ⟨_, rfl⟩
  rw [List.length_map, hm]
  rw [hm] at hl40
  have HMM := Lib.hid hm
  clear hm
  have d1 : decide ((40 : Int) < (m : Int)) = false := decide_eq_false (by omega)
  go_wp2_with fail
  go_loopw [5, 6, 31] (fun vp vl vi wr => ∃ k : Nat, k ≤ m ∧ vi = .int .i64 k ∧ vp = .int .u64 ((lprod (l.take k) : Nat) : Int) ∧ vl = .int .u64 ((lastF l k : Nat) : Int) ∧ Below w2.heap.size w2 wr) (fun _ _ vi _ => m - (intOf vi).toNat)
  case atStart => exact ⟨0, by omega, rfl, rfl, rfl, Below.refl _ _⟩
  case round =>
    obtain ⟨k, hk, rfl, rfl, rfl, hB⟩ := hrel
    by_cases hlt : k < m
    · have hkl : k < l.length := by rw [HMM.out]; exact hlt
      obtain ⟨b, rfl, hb, hc⟩ := HL.out k hkl
      have g1 := (hB.cell (p := ⟨b, k, none⟩) hb).trans hc
      have hx := HM.out l[k] (List.getElem_mem hkl)
      have hp := (HG.out.1 l[k] (List.getElem_mem hkl)).1
      have hla : lastF l k ≤ l[k] := by
        cases k with
        | zero => exact Nat.zero_le _
        | succ j =>
          show l.getD j 0 ≤ _
          rw [List.getD_eq_getElem?_getD, List.getElem?_eq_getElem (by omega)]
          exact pairwise_le HG.out.2.1 hkl
      have hnx : lastF l (k + 1) = l[k] := by
        show l.getD k 0 = _
        rw [List.getD_eq_getElem?_getD, List.getElem?_eq_getElem hkl]; rfl
      have hpr : lprod (l.take (k + 1)) = lprod (l.take k) * l[k] := by
        rw [List.take_succ_eq_append_getElem hkl, lprod_append]; simp [lprod]
      have hpn : lprod (l.take (k + 1)) ≤ n := by
        refine Nat.le_of_dvd (by have := HU.out; omega) ⟨lprod (l.drop (k + 1)), ?_⟩
        rw [lprod_take, HG.out.2.2]
      rw [hpr] at hpn
      have HP := Lib.hid hpr
      have HN := Lib.hid hnx
      generalize l[k] = x at g1 hx hp hla hnx hpr hpn HP HN
      have hxu : x < 18446744073709551616 := by have := HU.out; omega
      obtain ⟨is1, is2⟩ := isS_prime hp hxu
      have IS := Lib.hid (And.intro is1 is2)
      have HX := Lib.hid hxu
      have hpu : lprod (l.take k) * x < 18446744073709551616 := by have := HU.out; omega
      have o1 : IntKind.u64.wrap (((lprod (l.take k) : Nat) : Int) * (x : Int)) = ((lprod (l.take k) * x : Nat) : Int) := by rw [← Int.natCast_mul]; exact wraps_u64 _ (by omega) (by omega)
      have d2 : decide ((x : Int) < ((lastF l k : Nat) : Int)) = false := decide_eq_false (by omega)
      have d3 : decide ((n : Int) < (x : Int)) = false := decide_eq_false (by omega)
      generalize lastF l k = la at d2 hla
      generalize lprod (l.take k) = pk at hpn hpu o1 HP
      obtain ⟨pq, hpq⟩ : ∃ pq, pk * x = pq := ⟨_, rfl⟩
      rw [hpq] at o1 HP
      have h8 : decide ((enc x).size ≤ 8) = true := decide_eq_true (by rw [size_enc]; exact (blen_le_iff x 8).2 (by omega))
      have H8 := Lib.hid h8
      clear hpr hnx hpn hpu hpq hc hb hp is1 is2 hkl h8 hxu
      go_wp2_with fail
      refine (refU_any _ _ (by have := of_decide_eq_true H8.out; omega)).mono ?_
      rintro e w' ⟨rfl, rfl⟩
      rw [nv_enc, Nat.mod_eq_of_lt HX.out, H8.out]
      have hTr := hT.below (b2.trans (hB.mono b2.size))
      go_wp2_with fail
      refine (prIs_any _ _ hTr).mono ?_
      rw [IS.out.1, IS.out.2]
      rintro e w3 ⟨rfl, b3⟩
      clear hTr
      go_wp2_with fail
      exact ⟨⟨k + 1, by omega, by go_num, by rw [HP.out], by rw [HN.out], hB.trans (b3.mono hB.size)⟩, by simp [intOf]; omega⟩
    · obtain rfl : k = m := by omega
      rw [List.take_of_length_le (by rw [HMM.out]; omega), HG.out.2.2]
      have b4 := b2.trans (hB.mono b2.size)
      have hTr := hT.below b4
      go_wp2_with fail
      refine (awakeP _ hTr).mono ?_
      rintro e w3 ⟨rfl, b3⟩
      go_wp2_with fail
      go_ret
      exact ⟨rfl, b4.trans (b3.mono b4.size)⟩
theorem products_walkI (x : Int) (w : World) (hx : (Lit.int .u64 x).wf = true) (hT : Tab w) :
    Calls Tryd.prog 11 #[.int .u64 x] w fun e w' => e = .returned (.bool true) ∧ Below w.heap.size w w' := by
  have h : 0 ≤ x ∧ x ≤ 18446744073709551615 := by simpa [Lit.wf, show IntKind.u64.min = 0 from rfl, show IntKind.u64.max = 18446744073709551615 from rfl] using hx
  obtain ⟨n, rfl⟩ : ∃ n : Nat, x = (n : Int) := ⟨x.toNat, by omega⟩
  exact products_walk n w (by omega) hT
end Go.Proofs.YtphlmgdcpdjlpaaDoor
