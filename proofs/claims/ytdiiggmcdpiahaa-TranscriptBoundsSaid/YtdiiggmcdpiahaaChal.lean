/- transcript.Challenge, by what modular.Mul is known to give. -/
import Derived.Test.YtdiiggmcdpiahaaTr
import Derived.Test.YtdiiggmcdpiahaaModB
namespace Go.Proofs.Ytdiiggmcdpiahaa
open Go.RowKit Num
open Go.Lib (byteCells byteCells_length byteCells_append)
set_option maxRecDepth 20000

/-- the bytes of a hash -/
def shaL (l : List UInt8) : List UInt8 := outL (stt (padL l) ((padL l).length / 64)) 8
theorem sha_eq (l : List UInt8) : sha l = str (shaL l) := rfl
theorem length_shaL (l : List UInt8) : (shaL l).length = 32 := length_outL _ 8
/-- the bytes of k hashes for a challenge -/
def chs (st : List UInt8) : Nat → List UInt8
  | 0 => []
  | k + 1 => chs st k ++ shaL (frm 67 [st, bytesL 8 k])
theorem length_chs (st : List UInt8) : ∀ k, (chs st k).length = 32 * k
  | 0 => rfl
  | k + 1 => by rw [chs, List.length_append, length_chs st k, length_shaL]; omega
/-- how many hashes are needed for n bytes -/
def cK (n : Nat) : Nat := (n + 31) / 32
/-- the number of a challenge, ahead of its remainder -/
def chb (st : List UInt8) (n : Nat) : List UInt8 := (chs st (cK n)).take n
theorem length_chb (st : List UInt8) (n : Nat) : (chb st n).length = n := by
  unfold chb; rw [List.length_take, length_chs]; unfold cK; omega

/-- []byte(s) -/
theorem conv_bytes (w : World) (l : List UInt8) : ∃ c w', (convert 9 49 (.string (str l))).run Try.prog w = .ok (.slice (some ⟨w.heap.size, 0, none⟩) l.length c) w' ∧ Below w.heap.size w w' ∧ w.heap.size < w'.heap.size ∧
    ∀ j (h : j < l.length), w'.cell? ⟨w.heap.size, j, none⟩ = some (.int .u8 (l[j].toNat : Int)) := by
  have h := run_bytes_of_string (P := Try.prog) w 9 49 5 (str l) Try.underlying9 Try.underlying49 Try.underlying5
  rw [size_str] at h
  refine ⟨_, _, h, (Below.refl _ _).drew.alloc (Nat.le_refl _) _, by simp, fun j hj => ?_⟩
  have hh : (w.drew.alloc (.cells (bytesRow (str l) (grownCap w l.length 0 5)) 5 ((bytesRow (str l) (grownCap w l.length 0 5)).size, (bytesRow (str l) (grownCap w l.length 0 5)).size + 1))).heap[w.heap.size]? = _ := heap_alloc_new w.drew _
  rw [Lib.cell_of_heap hh, bytesRow_at _ _ j (by simp [str]; exact hj)]
  simp [str]
theorem cell_keep' {w w' : World} {a : Addr} {v : Value} (h : w.cell? a = some v) (hb : Below w.heap.size w w') : w'.cell? a = some v := cell_keep h hb
theorem nv_step (l : List UInt8) (j m : Nat) (h : j < l.length) : (nvL (l.take j) * 256 % m + l[j].toNat) % m = nvL (l.take (j + 1)) % m := by
  rw [List.take_succ_eq_append_getElem h, nvL_append]
  simp only [List.length_singleton, Nat.pow_one]
  rw [show nvL [l[j]] = l[j].toNat from by simp [nvL]]
  rw [Nat.add_mod, Nat.mod_mod, ← Nat.add_mod]
set_option maxHeartbeats 8000000 in
theorem Challenge_of (st : List UInt8) (v : ByteArray) (m : Nat) (w : World) (hv : IsN v m) (h0 : 0 < m) (hst : st.length ≤ 100000)
    (hT : ∀ a w, a < m → Calls Try.prog 50 #[.string (enc a), .string (enc 256), .string v] w fun e w' => e = .returned (.string (enc (a * 256 % m))) ∧ Below w.heap.size w w') :
    Calls Try.prog 12 #[.string (str st), .string v] w fun e w' => e = .returned (.tuple #[.string (enc (nvL (chb st (v.size + 8)) % m)), .int .i64 0]) ∧ Below w.heap.size w w' := by
  have h1 := hv.valid
  have hp := hv.pos h0
  have hsm := hv.small
  obtain ⟨n, hn⟩ : ∃ n, v.size = n := ⟨_, rfl⟩
  rw [hn] at hp hsm ⊢
  have HV := Lib.hid hv
  have HT := Lib.hid hT
  have HVV := Lib.hid h1
  have hne2 : v.toList.isEmpty = false := by rw [hv.eq]; exact toList_enc_nil h0
  have hne1 : v.toList = [] → False := fun e => by rw [e] at hne2; cases hne2
  clear hv hT h1
  go_enter Try.func12, Try.ntmps12
  go_wp2_with (go_at_call 26; refine (Valid_any _ _).mono ?_; rw [HVV.out]; rintro e w' ⟨rfl, rfl⟩)
  have hB0 := Bld.new 51 w
  have hb0 := blw_alloc w (.cells #[.pointer none, .slice none 0 0] 51)
  obtain ⟨K, hK⟩ : ∃ K, cK (n + 8) = K := ⟨_, rfl⟩
  have hK1 : n + 8 ≤ 32 * K := by rw [← hK]; unfold cK; omega
  have hK2 : 32 * K ≤ n + 8 + 31 := by rw [← hK]; unfold cK; omega
  have HK := Lib.hid hK
  clear hK
  go_loopw [7] (fun x wr => ∃ k : Nat, k ≤ K ∧ x = .int .i64 k ∧ Bld 51 wr w.heap.size (chs st k) ∧ Below w.heap.size w wr)
    (fun x _ => K - (intOf x).toNat)
  case atStart => exact ⟨0, by omega, rfl, hB0, hb0⟩
  case round =>
    clear hB0 hb0
    obtain ⟨k, hk, rfl, hB, hb⟩ := hrel
    have hlen := length_chs st k
    have hBl := hB.lt
    by_cases hlt : k < K
    · have t1 : decide (32 * (k : Int) < (n : Int) + 8) = true := by rw [decide_eq_true_eq]; omega
      go_wp2_with fail
      refine (Len_any _ _ _ _ hB).mono ?_
      rintro e w' ⟨rfl, rfl⟩
      rw [hlen]
      go_wp2_with fail
      refine (eight_any wr.heap.size [] k _ (Bld.new _ wr) (by simp)).mono ?_
      rintro e w1 ⟨rfl, hF1, hb1, _⟩
      rw [List.nil_append] at hF1
      have hb1' := (blw_alloc wr _).trans hb1
      have hB1 := hB.below hb1' (Nat.le_refl _)
      have z1 := hb1'.size
      go_wp2_with fail
      refine (String_any _ _ _ _ hF1 (by intro e; have := congrArg List.length e; simp [length_bytesL] at this)).mono ?_
      rintro e w2 ⟨rfl, hb2⟩
      have hb2' := hb1'.trans hb2
      have hB2 := hB.below hb2' (Nat.le_refl _)
      have z2 := hb2'.size
      clear hF1 hb1 hb1' hB1 hb2
      go_wp2_with fail
      obtain ⟨ao, cm, e1, e2⟩ := (Strs.lit w2 [st, bytesL 8 k] #[.string (str st), .string (str (bytesL 8 k))] rfl).more
      injection e1 with e1 _ e3
      subst e1
      refine (plain_any 67 _ _ 2 [st, bytesL 8 k] _ rfl e2 (by rw [flat_two, length_bytesL]; omega)).mono ?_
      rintro e w3 ⟨rfl, hb3⟩
      have hb3' := (blw_alloc w2 _).trans (hb3.mono (by simp))
      have hb3'' := hb2'.trans (hb3'.mono z2)
      have hB3 := hB.below hb3'' (Nat.le_refl _)
      have z3 := hb3''.size
      clear hb3 hb3' hB2 hb2' e2 e3
      rw [sha_eq]
      go_wp2_with fail
      refine (WriteString_any _ bt_builder w.heap.size _ (shaL (frm 67 [st, bytesL 8 k])) _ hB3 (by omega) (by rw [length_shaL]; omega)).mono ?_
      rintro e w4 ⟨rfl, hB4, hb4, _⟩
      have hb5 := (hb.trans (hb3''.mono hb.size)).trans hb4
      clear t1
      go_wp2_with fail
      exact ⟨⟨k + 1, by omega, by go_num, hB4, hb5⟩, by simp [intOf]; omega⟩
    · obtain rfl : k = K := by omega
      have t1 : decide (32 * (k : Int) < (n : Int) + 8) = false := by rw [decide_eq_false_iff_not]; omega
      go_wp2_with fail
      refine (Len_any _ _ _ _ hB).mono ?_
      rintro e w' ⟨rfl, rfl⟩
      rw [hlen]
      go_wp2_with fail
      refine (String_any _ _ _ _ hB (by intro e; have := congrArg List.length e; simp [hlen] at this; omega)).mono ?_
      rintro e w1 ⟨rfl, hb1⟩
      have hsz := size_str (chs st k)
      rw [hlen] at hsz
      have hex : (str (chs st k)).extract 0 (n + 8) = str (chb st (n + 8)) := by
        unfold chb
        rw [HK.out]
        apply ByteArray.ext
        simp [str]
      have HEX := Lib.hid hex
      clear hex t1 hlen
      go_wp2_with fail
      have hlb := length_chb st (n + 8)
      obtain ⟨B, hB0⟩ : ∃ B, chb st (n + 8) = B := ⟨_, rfl⟩
      rw [hB0] at HEX hlb
      have HB := Lib.hid hB0
      clear hB0 hB
      have hbA := hb.trans hb1
      obtain ⟨c, w5, hrun, hb5, hz5, hcells⟩ := conv_bytes w1 B
      rw [hlb] at hrun
      rw [HEX.out, hrun]
      simp only [Result.andThen]
      rw [Oper.upon_value]
      have HC := Lib.hid hcells
      have HLB := Lib.hid hlb
      have hbW := hbA.trans (hb5.mono hbA.size)
      have zW : w.heap.size ≤ w5.heap.size := by have := hb.size; have := hb1.size; have := hb5.size; omega
      clear hrun hcells hlb hb hb1 hbA
      go_wp2_with fail
      go_loopw [9, 39] (fun o x wr => ∃ j : Nat, j ≤ n + 8 ∧ x = .int .i64 j ∧ o = .string (enc (nvL (B.take j) % m)) ∧ Below w5.heap.size w5 wr)
        (fun _ x _ => n + 8 - (intOf x).toNat)
      case atStart => exact ⟨0, by omega, rfl, by simp [nvL, enc_zero], Below.refl _ _⟩
      case round =>
        obtain ⟨j, hj, rfl, rfl, hb'⟩ := hrel
        by_cases hlt2 : j < n + 8
        · have hjB : j < B.length := by rw [HLB.out]; exact hlt2
          have hc := cell_keep' (HC.out j hjB) hb'
          have hby := B[j].toNat_lt
          obtain ⟨y, hy⟩ : ∃ y, B[j].toNat = y := ⟨_, rfl⟩
          rw [hy] at hc hby
          have HY := Lib.hid hy
          have hs1 := nv_step B j m hjB
          rw [hy] at hs1
          clear hy
          have hadd : ∀ W, Calls Try.prog 34 #[.string (enc (nvL (B.take j) * 256 % m)), .string (enc y), .string v] W fun e w' => e = .returned (.tuple #[.string (enc (nvL (B.take (j + 1)) % m)), .int .i64 0]) ∧ Below W.heap.size W w' := fun W => by
            have := ModAdd_ok (enc (nvL (B.take j) * 256 % m)) (enc y) v _ y m W (IsN.mk' (mod_le HV.out h0)) (IsN.mk' (Nat.le_trans (blen_mono (Nat.le_of_lt hby)) (by decide))) HV.out h0
            rw [hs1] at this
            exact this
          have HADD := Lib.hid hadd
          clear hs1 hadd
          have sz := hb'.size
          go_wp2_with fail
          refine (Of_any 256 _ (by omega)).mono ?_
          rintro e w6 ⟨rfl, hb6⟩
          go_wp2_with fail
          refine (ModMul_of (enc (nvL (B.take j) % m)) (enc 256) v _ 256 m _ (IsN.mk' (mod_le HV.out h0)) (IsN.mk' (by decide)) HV.out h0 (fun w => HT.out _ w (Nat.mod_lt _ h0))).mono ?_
          rintro e w7 ⟨rfl, hb7⟩
          go_wp2_with fail
          refine (Of_any y _ (by omega)).mono ?_
          rintro e w8 ⟨rfl, hb8⟩
          go_wp2_with fail
          refine (HADD.out _).mono ?_
          rintro e w9 ⟨rfl, hb9⟩
          have z6 := hb6.size
          have z7 := hb7.size
          have z8 := hb8.size
          have hbN := (((hb'.trans (hb6.mono (by omega))).trans (hb7.mono (by omega))).trans (hb8.mono (by omega))).trans (hb9.mono (by omega))
          go_wp2_with fail
          exact ⟨⟨j + 1, by omega, by go_num, rfl, hbN⟩, by simp [intOf]; omega⟩
        · obtain rfl : j = n + 8 := by omega
          rw [List.take_of_length_le (by rw [HLB.out]; omega), ← HB.out]
          go_wp2_with fail
          go_ret2
          exact ⟨rfl, hbW.trans (hb'.mono zW)⟩
end Go.Proofs.Ytdiiggmcdpiahaa
