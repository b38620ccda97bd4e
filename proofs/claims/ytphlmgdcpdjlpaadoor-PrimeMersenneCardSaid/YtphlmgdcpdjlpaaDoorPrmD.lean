/- Contracts: prime.small, Is, Next, Safe, and dominoref04 Formed, U, Of, IsU, Is, NextU, Next, Safe. -/
import Derived.Test.YtphlmgdcpdjlpaaDoorPrmC
import Derived.Test.YtphlmgdcpdjlpaaDoorNatE
namespace Go.Proofs.YtphlmgdcpdjlpaaDoor
open Go.RowKit Num
set_option maxRecDepth 20000
set_option linter.unusedVariables false

/-- the error of a number that must be short -/
def smE (s : ByteArray) : Int := if validB s = true then (if s.size ≤ 8 then 0 else 5) else 3
def okN (s : ByteArray) : Bool := validB s && decide (s.size ≤ 8)
def isS (s : ByteArray) : Bool := okN s && isB (nv s)
def sfS (s : ByteArray) : Bool := okN s && (isB (nv s) && isB ((nv s - 1) / 2))
theorem cls (s : ByteArray) : (validB s = false ∧ smE s = 3 ∧ okN s = false) ∨ (validB s = true ∧ 8 < s.size ∧ smE s = 5 ∧ okN s = false) ∨ (IsN s (nv s) ∧ s.size ≤ 8 ∧ nv s < 18446744073709551616 ∧ smE s = 0 ∧ okN s = true) := by
  by_cases hv : validB s = true
  · by_cases h8 : s.size ≤ 8
    · refine .inr (.inr ⟨isN_of_valid hv, h8, ?_, by unfold smE; rw [if_pos hv, if_pos h8], by unfold okN; rw [hv, decide_eq_true h8]; rfl⟩)
      have h1 := nv_lt s
      have h2 : 256 ^ s.size ≤ 256 ^ 8 := Nat.pow_le_pow_right (by omega) h8
      omega
    · exact .inr (.inl ⟨hv, by omega, by unfold smE; rw [if_pos hv, if_neg h8], by unfold okN; rw [hv, decide_eq_false h8]; rfl⟩)
  · have hv2 : validB s = false := by simpa using hv
    exact .inl ⟨hv2, by unfold smE; rw [if_neg hv], by unfold okN; rw [hv2]; rfl⟩
theorem prsmall_bad (s : ByteArray) (w : World) (h : validB s = false) :
    Calls Tryd.prog 27 #[.string s] w fun e w' => e = .returned (.tuple #[.int .u64 0, .int .i64 3]) ∧ w = w' := by
  have H := Lib.hid h
  clear h
  go_enter Tryd.func27, Tryd.ntmps27
  go_wp2_with (go_at_call 30; refine (Valid_any _ _).mono ?_; rw [H.out]; rintro e w' ⟨rfl, rfl⟩)
  go_ret2
  exact ⟨rfl, rfl⟩
theorem prsmall_long (s : ByteArray) (w : World) (h : validB s = true) (h8 : 8 < s.size) :
    Calls Tryd.prog 27 #[.string s] w fun e w' => e = .returned (.tuple #[.int .u64 0, .int .i64 5]) ∧ w = w' := by
  have hn := isN_of_valid h
  have hd : decide (blen (nv s) ≤ 8) = false := decide_eq_false (by rw [← hn.size]; omega)
  have HN := Lib.hid hn
  have HD := Lib.hid hd
  clear h h8 hn hd
  go_enter Tryd.func27, Tryd.ntmps27
  go_wp2_with fail
  refine (Valid_yes _ _ _ HN.out).mono ?_; rintro e w' ⟨rfl, rfl⟩
  go_wp2_with fail
  refine (Small_any _ _ _ HN.out).mono ?_; rintro e w' ⟨rfl, rfl⟩
  rw [HD.out]
  go_wp2_with fail
  go_ret2
  exact ⟨rfl, rfl⟩
theorem prsmall_ok (s : ByteArray) (w : World) (h : IsN s (nv s)) (h8 : s.size ≤ 8) :
    Calls Tryd.prog 27 #[.string s] w fun e w' => e = .returned (.tuple #[.int .u64 ((nv s : Nat) : Int), .int .i64 0]) ∧ w = w' := by
  have hd : decide (blen (nv s) ≤ 8) = true := decide_eq_true (by rw [← h.size]; omega)
  have hs := sm_short (show blen (nv s) ≤ 8 by rw [← h.size]; omega)
  have HN := Lib.hid h
  have HD := Lib.hid hd
  have HS := Lib.hid hs
  clear h h8 hd hs
  go_enter Tryd.func27, Tryd.ntmps27
  go_wp2_with fail
  refine (Valid_yes _ _ _ HN.out).mono ?_; rintro e w' ⟨rfl, rfl⟩
  go_wp2_with fail
  refine (Small_any _ _ _ HN.out).mono ?_; rintro e w' ⟨rfl, rfl⟩
  rw [HD.out, HS.out]
  go_wp2_with fail
  go_ret2
  exact ⟨rfl, rfl⟩
theorem ret_ib {b c : Bool} {k : IntKind} {x y : Int} (h : x = y) (g : b = c) : Ending.returned (.tuple #[.int k x, .bool b]) = .returned (.tuple #[.int k y, .bool c]) := by rw [h, g]
theorem ret_bi {b c : Bool} {k : IntKind} {x y : Int} (h : b = c) (g : x = y) : Ending.returned (.tuple #[.bool b, .int k x]) = .returned (.tuple #[.bool c, .int k y]) := by rw [h, g]
theorem prIs_any (s : ByteArray) (w : World) (hT : Tab w) :
    Calls Tryd.prog 13 #[.string s] w fun e w' => e = .returned (.tuple #[.bool (isS s), .int .i64 (smE s)]) ∧ Below w.heap.size w w' := by
  rcases cls s with ⟨h1, h2, h3⟩ | ⟨h1, h8, h2, h3⟩ | ⟨h1, h8, hlt, h2, h3⟩
  · have e1 : isS s = false := by unfold isS; rw [h3]; rfl
    rw [e1, h2]
    have H1 := Lib.hid h1
    clear h1 h2 h3 e1
    go_enter Tryd.func13, Tryd.ntmps13
    go_wp2_with fail
    refine (prsmall_bad _ _ H1.out).mono ?_; rintro e w' ⟨rfl, rfl⟩
    go_wp2_with fail
    go_ret2
    exact ⟨rfl, Below.refl _ _⟩
  · have e1 : isS s = false := by unfold isS; rw [h3]; rfl
    rw [e1, h2]
    have H1 := Lib.hid (And.intro h1 h8)
    clear h1 h2 h3 e1 h8
    go_enter Tryd.func13, Tryd.ntmps13
    go_wp2_with fail
    refine (prsmall_long _ _ H1.out.1 H1.out.2).mono ?_; rintro e w' ⟨rfl, rfl⟩
    go_wp2_with fail
    go_ret2
    exact ⟨rfl, Below.refl _ _⟩
  · have e1 : isS s = isB (nv s) := by unfold isS; rw [h3]; rfl
    rw [e1, h2]
    have H1 := Lib.hid (And.intro h1 h8)
    have HL := Lib.hid hlt
    clear h1 h2 h3 e1 h8 hlt
    go_enter Tryd.func13, Tryd.ntmps13
    go_wp2_with fail
    refine (prsmall_ok _ _ H1.out.1 H1.out.2).mono ?_; rintro e w' ⟨rfl, rfl⟩
    go_wp2_with fail
    refine (is_any (nv s) _ HL.out hT).mono ?_; rintro e w' ⟨rfl, hb⟩
    go_wp2_with fail
    go_ret2
    exact ⟨rfl, hb⟩
theorem refFormed_any (s : ByteArray) (w : World) :
    Calls Tryd.prog 18 #[.string s] w fun e w' => e = .returned (.bool (validB s)) ∧ w = w' := by
  by_cases h : s.size ≤ 128
  · by_cases h0 : s.size = 0
    · obtain rfl := bytes_zero h0
      go_enter Tryd.func18, Tryd.ntmps18
      go_wp2
      go_ret
      exact ⟨ret_bool (by simp [validB, canon_empty h0]; decide), rfl⟩
    · have hp : 0 < s.size := by omega
      go_enter Tryd.func18, Tryd.ntmps18
      go_wp2
      go_ret
      refine ⟨ret_bool ?_, rfl⟩
      have := canon_pos hp
      rw [Bool.eq_iff_iff]; simp [validB, h, this]
      intro e; subst e; exact absurd rfl h0
  · go_enter Tryd.func18, Tryd.ntmps18
    go_wp2
    go_ret
    exact ⟨ret_bool (by simp [validB, h]), rfl⟩
theorem nvL_take_step' (l : List UInt8) (k : Nat) (h : k < l.length) : nvL (l.take (k + 1)) = nvL (l.take k) * 256 + l[k].toNat := by
  rw [List.take_succ_eq_append_getElem h, nvL_append]
  simp [nvL]
theorem refU_any (s : ByteArray) (w : World) (hs : s.size ≤ 1000000) :
    Calls Tryd.prog 21 #[.string s] w fun e w' => e = .returned (.tuple #[.int .u64 ((nv s % 18446744073709551616 : Nat) : Int), .bool (decide (s.size ≤ 8))]) ∧ w = w' := by
  obtain ⟨l, rfl⟩ : ∃ l : List UInt8, s = ⟨l.toArray⟩ := ⟨s.data.toList, by simp⟩
  have hl : (⟨l.toArray⟩ : ByteArray).size = l.length := by simp [ByteArray.size]
  have hnv : nv ⟨l.toArray⟩ = nvL l := by simp [nv]
  have HNV := Lib.hid hnv; clear hnv
  go_enter Tryd.func21, Tryd.ntmps21
  go_wp2
  go_loop [4, 5] (fun n i => ∃ k : Nat, k ≤ l.length ∧ i = .int .i64 k ∧ n = .int .u64 ((nvL (l.take k) % 18446744073709551616 : Nat) : Int)) (fun _ i => l.length - (intOf i).toNat)
  case atStart => exact ⟨0, by omega, rfl, by simp [nvL]⟩
  case round =>
    obtain ⟨k, hk, rfl, rfl⟩ := hrel
    by_cases hlt : k < l.length
    · have st := nvL_take_step' l k hlt
      obtain ⟨x, hx⟩ : ∃ x, nvL (l.take k) = x := ⟨_, rfl⟩
      rw [hx] at st ⊢
      have hb := l[k].toNat_lt
      obtain ⟨x8, hx8⟩ : ∃ y, x % 18446744073709551616 = y := ⟨_, rfl⟩
      have hx9 : x8 < 18446744073709551616 := by omega
      rw [hx8]
      have ev : IntKind.u64.wrap (IntKind.u64.wrap ((x8 : Int) * 256) + IntKind.u64.wrap (((⟨l.toArray⟩ : ByteArray)[k]'(by rw [hl]; exact hlt)).toNat : Int)) = ((nvL (l.take (k + 1)) % 18446744073709551616 : Nat) : Int) := by
        rw [show ((⟨l.toArray⟩ : ByteArray)[k]'(by rw [hl]; exact hlt)) = l[k] from rfl, wraps_u64 (l[k].toNat : Int) (by omega) (by omega), IntKind.wrap_u64, IntKind.wrap_u64, st]
        omega
      have EV := Lib.hid ev
      have X9 := Lib.hid hx9
      clear ev hx8 hx9
      go_wp2
      exact ⟨⟨k + 1, by omega, by go_num, by rw [EV.out]⟩, by simp [intOf]; omega⟩
    · obtain rfl : k = l.length := by omega
      rw [List.take_length]
      go_wp2
      go_ret2
      rw [HNV.out]
      exact ⟨ret_ib (by simp) (by rw [decide_eq_decide]; omega), rfl⟩

theorem bytesL_cons' (k n : Nat) : bytesL (k + 1) n = UInt8.ofNat (n / 256 ^ k) :: bytesL k n := by
  unfold bytesL
  rw [List.range_succ_eq_map, List.map_cons, List.map_map]
  congr 1
  apply List.map_congr_left
  intro i hi
  simp only [Function.comp]
  congr 3
  omega
theorem conv_one' (w : World) (z : Int) (c : UInt8) (hz : (c.toNat : Int) = z) : (convert 38 9 (.slice (some ⟨w.heap.size, 0, none⟩) 1 1)).run Tryd.prog (w.alloc (.cells #[.int .u8 z] 5)) = .ok (.string (str [c])) (w.alloc (.cells #[.int .u8 z] 5)) :=
  run_convert_bytes_back _ 38 9 5 ⟨w.heap.size, 0, none⟩ 1 [c] Tryd.underlying38 Tryd.underlying5 Tryd.underlying9 (by
    intro j hj
    obtain rfl : j = 0 := by simpa using hj
    rw [show (⟨w.heap.size, 0, none⟩ : Addr).add 0 = ⟨w.heap.size, 0, none⟩ from rfl, new_cell0, ← hz]
    rfl)
theorem ref4Of_any (n : Nat) (w : World) (hn : n < 18446744073709551616) :
    Calls Tryd.prog 15 #[.int .u64 (n : Int)] w fun e w' => e = .returned (.string (enc n)) ∧ Below w.heap.size w w' := by
  have hb8 : blen n ≤ 8 := (blen_le_iff n 8).2 (by omega)
  go_enter Tryd.func15, Tryd.ntmps15
  go_wp2_with fail
  go_loopw [0, 3] (fun x s wr => ∃ k : Nat, k ≤ blen n ∧ x = .int .u64 ((n / 256 ^ k : Nat) : Int) ∧ s = .string (str (bytesL k n)) ∧ Below w.heap.size w wr)
    (fun x _ _ => (intOf x).toNat)
  case atStart => exact ⟨0, by omega, by simp, rfl, Below.refl _ _⟩
  case round =>
    obtain ⟨k, hk, rfl, rfl, hb⟩ := hrel
    have hq : n / 256 ^ k ≤ n := Nat.div_le_self _ _
    have hsz : (str (bytesL k n)).size = k := by rw [size_str, length_bytesL]
    obtain ⟨Q, hQ⟩ : ∃ Q, n / 256 ^ k = Q := ⟨_, rfl⟩
    have hcv := conv_one' wr ((Q : Int) % 256) (UInt8.ofNat Q) (by rw [UInt8.toNat_ofNat']; simp)
    rw [hQ] at hq ⊢
    have hs1 : (str [UInt8.ofNat Q]).size = 1 := size_str _
    by_cases hz : Q = 0
    · have hke : k = blen n := by
        have : blen n ≤ k := by
          rw [blen_le_iff]
          rcases Nat.lt_or_ge n (256 ^ k) with h | h
          · exact h
          · have := Nat.div_pos h (Nat.pow_pos (n := k) (by omega : 0 < 256)); omega
        omega
      have hfin : str (bytesL k n) = enc n := by rw [hke]; rfl
      have HF := Lib.hid hfin
      subst hz
      clear hfin hke hcv hQ
      go_wp2_with fail
      go_ret
      exact ⟨ret_str (by rw [HF.out]), hb⟩
    · have hklt : k < blen n := by
        rcases Nat.lt_or_ge k (blen n) with h | h
        · exact h
        · have h1 := (blen_le_iff n k).1 h
          rw [Nat.div_eq_of_lt h1] at hQ; omega
      have hn2 : n / 256 ^ (k + 1) = Q / 256 := by rw [Nat.pow_succ, ← Nat.div_div_eq_div_mul, hQ]
      have hbl : str [UInt8.ofNat Q] ++ str (bytesL k n) = str (bytesL (k + 1) n) := by rw [str_append, bytesL_cons', hQ]; rfl
      have HN2 := Lib.hid hn2
      have HBL := Lib.hid hbl
      clear hn2 hbl hQ
      go_wp2_with fail
      exact ⟨⟨k + 1, by omega, by rw [HN2.out]; simp, by rw [HBL.out], hb.alloc hb.size _⟩, by simp [intOf]; omega⟩
set_option maxHeartbeats 2000000 in
theorem refIsU_any (n : Nat) (w : World) (hn : n < 18446744073709551616) :
    Calls Tryd.prog 29 #[.int .u64 (n : Int)] w fun e w' => e = .returned (.bool (isB n)) ∧ Below w.heap.size w w' := by
  rcases Nat.lt_or_ge n 2 with h2 | h2
  · have hb := isB_small h2
    have HB := Lib.hid hb
    clear hb
    go_enter Tryd.func29, Tryd.ntmps29
    go_wp2_with fail
    go_ret
    exact ⟨ret_bool HB.out.symm, Below.refl _ _⟩
  · have harr : Arr (w.alloc (.cells #[.int .u64 2, .int .u64 3, .int .u64 5, .int .u64 7, .int .u64 11, .int .u64 13, .int .u64 17, .int .u64 19, .int .u64 23, .int .u64 29, .int .u64 31, .int .u64 37] 31)) w.heap.size 31 .u64 12 bf := Arr.made (by kernel_rfl)
    have hbA : Below w.heap.size w (w.alloc (.cells #[.int .u64 2, .int .u64 3, .int .u64 5, .int .u64 7, .int .u64 11, .int .u64 13, .int .u64 17, .int .u64 19, .int .u64 23, .int .u64 29, .int .u64 31, .int .u64 37] 31)) := (Below.refl _ _).alloc (Nat.le_refl _) _
    go_enter Tryd.func29, Tryd.ntmps29
    go_wp2_with fail
    generalize World.alloc _ _ = w1 at harr hbA ⊢
    go_loop [4] (fun i => ∃ k : Nat, k ≤ 12 ∧ i = .int .i64 k ∧ Hid (∀ j : Nat, j < k → n % bases[j]! ≠ 0)) (fun i => 12 - (intOf i).toNat)
    case atStart => exact ⟨0, by omega, rfl, fun j h => by omega⟩
    case round =>
      obtain ⟨k, hk, rfl, hno⟩ := hrel
      by_cases hlt : k < 12
      · have hpb : ∀ i : Nat, i < 12 → bases[i]! ≤ 37 ∧ 2 ≤ bases[i]! := by decide
        obtain ⟨hp1, hp2⟩ := hpb k hlt
        clear hpb
        have hcell := harr.cell hlt
        obtain ⟨p, hp⟩ : ∃ p, bases[k]! = p := ⟨_, rfl⟩
        have hbf : bf k = (p : Int) := by unfold bf; rw [hp]
        rw [hbf] at hcell
        rw [hp] at hp1 hp2
        have HP := Lib.hid hp
        clear hp hbf
        have nz : ((p : Int) == 0) = false := by rw [beq_eq_false_iff_ne]; omega
        have nz2 : ¬ ((p : Int) = 0) := by omega
        have m1 : (n : Int).tmod (p : Int) = ((n % p : Nat) : Int) := by rw [Int.tmod_eq_emod_of_nonneg (by omega)]; simp
        by_cases hnp : n = p
        · have hd : n % p = 0 := by rw [hnp, Nat.mod_self]
          have hr := isB_div h2 hlt hno.out (by rw [HP.out]; exact hd)
          rw [HP.out, hnp] at hr
          have hr2 : isB n = true := by rw [hnp, hr]; simp
          have HR := Lib.hid hr2
          have t1 : ((n : Int) == (p : Int)) = true := by rw [beq_iff_eq]; omega
          clear hr hr2 hnp hd m1 nz nz2
          go_wp2_with fail
          go_ret
          exact ⟨ret_bool HR.out.symm, hbA⟩
        · have t1 : ((n : Int) == (p : Int)) = false := by rw [beq_eq_false_iff_ne]; omega
          by_cases hd : n % p = 0
          · rw [hd] at m1
            have hr := isB_div h2 hlt hno.out (by rw [HP.out]; exact hd)
            rw [HP.out] at hr
            have hr2 : isB n = false := by rw [hr]; simpa using hnp
            have HR := Lib.hid hr2
            clear hr hr2 hnp
            go_wp2_with fail
            go_ret
            exact ⟨ret_bool HR.out.symm, hbA⟩
          · have hno2 : Hid (∀ j : Nat, j < k + 1 → n % bases[j]! ≠ 0) := fun j hj => by
              by_cases e : j = k
              · subst e; rw [HP.out]; exact hd
              · exact hno.out j (by omega)
            have hm := Nat.mod_lt n (show 0 < p by omega)
            obtain ⟨m, hm0⟩ : ∃ m, n % p = m := ⟨_, rfl⟩
            rw [hm0] at m1 hd hm
            clear hm0 hnp
            go_wp2_with fail
            exact ⟨⟨k + 1, by omega, by go_num, hno2⟩, by simp [intOf]; omega⟩
      · obtain rfl : k = 12 := by omega
        obtain ⟨h37, hodd⟩ := no_base h2 hno.out
        go_wp2_with fail
        go_loop [5] (fun i => ∃ k : Nat, k ≤ 12 ∧ i = .int .i64 k ∧ Hid (∀ i : Nat, i < k → strongB n bases[i]! = true)) (fun i => 12 - (intOf i).toNat)
        case atStart => exact ⟨0, by omega, rfl, fun j h => by omega⟩
        case round =>
          obtain ⟨k, hk, rfl, hst⟩ := hrel
          by_cases hlt2 : k < 12
          · have hpb : ∀ i : Nat, i < 12 → bases[i]! ≤ 37 ∧ 2 ≤ bases[i]! := by decide
            obtain ⟨hp1, hp2⟩ := hpb k hlt2
            clear hpb
            have hcell := harr.cell hlt2
            obtain ⟨p, hp⟩ : ∃ p, bases[k]! = p := ⟨_, rfl⟩
            have hbf : bf k = (p : Int) := by unfold bf; rw [hp]
            rw [hbf] at hcell
            rw [hp] at hp1 hp2
            have HP := Lib.hid hp
            clear hp hbf
            have hsu : strongU n p = strongB n p := by unfold strongU; rw [if_neg (by omega), if_neg (by omega)]
            have HSU := Lib.hid hsu
            clear hsu
            go_wp2_with fail
            refine (refStrongU_any n p _ hn (by omega)).mono ?_
            rintro e w4 ⟨rfl, rfl⟩
            rw [HSU.out]
            rcases Bool.eq_false_or_eq_true (strongB n p) with hs | hs
            · have hst2 : Hid (∀ i : Nat, i < k + 1 → strongB n bases[i]! = true) := fun i hi => by
                by_cases e : i = k
                · subst e; rw [HP.out]; exact hs
                · exact hst.out i (by omega)
              rw [hs]
              clear hs
              go_wp2_with fail
              exact ⟨⟨k + 1, by omega, by go_num, hst2⟩, by simp [intOf]; omega⟩
            · have hbn : isB n = false := isB_no h2 hno.out hlt2 (by rw [HP.out]; exact hs)
              have HBN := Lib.hid hbn
              rw [hs]
              clear hs hbn
              go_wp2_with fail
              go_ret
              exact ⟨ret_bool HBN.out.symm, hbA⟩
          · obtain rfl : k = 12 := by omega
            have hyes := isB_yes h2 hno.out hst.out
            have HY := Lib.hid hyes
            clear hyes
            go_wp2_with fail
            go_ret
            exact ⟨ret_bool HY.out.symm, hbA⟩
end Go.Proofs.YtphlmgdcpdjlpaaDoor
