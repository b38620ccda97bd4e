/- The reference's trial division: dominoref04.FactorsU, Factors. -/
import Derived.Test.YtphlmgdcpdjlpaaDoorFacP
namespace Go.Proofs.YtphlmgdcpdjlpaaDoor
open Go.RowKit Go.Shelf Num
set_option maxRecDepth 20000
set_option linter.unusedVariables false
theorem info_u64r : (Tryd.prog.info? 31).map (fun i => (i.zero, i.size, i.bytes)) = some (some (.int .u64 0), 1, 8) := by kernel_rfl
def uvs (l : List Nat) : List Value := l.map fun (x : Nat) => Value.int .u64 (x : Int)
theorem uvs_app (l m : List Nat) : uvs (l ++ m) = uvs l ++ uvs m := List.map_append
theorem uvs_one (x : Nat) : uvs [x] = [.int .u64 (x : Int)] := rfl
set_option maxRecDepth 100000 in
set_option maxHeartbeats 4000000 in
theorem refFactorsU_any (n : Nat) (l : List Nat) (w : World) (h0 : 1 ≤ n) (hb : n < 1099511627776) (hF : Fac false n 2 l) :
    Calls Tryd.prog 42 #[.int .u64 (n : Int)] w fun e w' => (∃ v, e = .returned v ∧ w'.ownsRow w.heap.size 31 1 v l.length (uvs l)) ∧ Below w.heap.size w w' := by
  have hlen := hF.len h0 (by omega)
  have hl40 : l.length ≤ 40 := by
    rcases Nat.lt_or_ge 40 l.length with h | h
    · have h1 : 2 ^ 41 ≤ 2 ^ l.length := Nat.pow_le_pow_right (by omega) h
      omega
    · exact h
  have HF := Lib.hid hF
  clear hF hlen
  obtain ⟨i0, hi, hz0, hz1, hz2⟩ := info_parts info_u64r
  go_enter Tryd.func42, Tryd.ntmps42
  go_wp2_with fail
  go_loopw [0, 3, 4] (fun vn vo vp wr => ∃ (p m : Nat) (pre rest : List Nat), vp = .int .u64 (p : Int) ∧ vn = .int .u64 (m : Int) ∧ 2 ≤ p ∧ p ≤ 1048577 ∧ 1 ≤ m ∧ m < 1099511627776 ∧ Hid (Fac false m p rest) ∧ Hid (l = pre ++ rest) ∧ wr.ownsRow w.heap.size 31 1 vo pre.length (uvs pre) ∧ Below w.heap.size w wr)
    (fun _ _ vp _ => 1048578 - (intOf vp).toNat)
  case atStart => exact ⟨2, n, [], l, rfl, rfl, by omega, by omega, h0, hb, HF, rfl, World.ownsRow_nil w _ _ _, Below.refl _ _⟩
  case round =>
    clear h0 hb HF
    obtain ⟨p, m, pre, rest, rfl, rfl, hp2, hpu, hm1, hmu, hfac, hxs, hO, hB⟩ := hrel
    have hpp : p * p ≤ 1048577 * 1048577 := Nat.mul_le_mul hpu hpu
    have o1 : IntKind.u64.wrap ((p : Int) * (p : Int)) = ((p * p : Nat) : Int) := by rw [← Int.natCast_mul]; exact wraps_u64 _ (by omega) (by omega)
    by_cases h : p * p ≤ m
    · have hin := hfac.out.inv_false.1 h
      have d1 : decide (p * p ≤ m) = true := decide_eq_true h
      have hpl : p ≤ 1048576 := by
        rcases Nat.lt_or_ge 1048576 p with h' | h'
        · have : 1048577 * 1048577 ≤ p * p := Nat.mul_le_mul h' h'
          omega
        · exact h'
      have HIN := Lib.hid hin
      obtain ⟨pp, hpp2⟩ : ∃ pp, p * p = pp := ⟨_, rfl⟩
      rw [hpp2] at o1 d1
      clear hin hfac h hpp hpp2
      go_wp2_with fail
      go_loopw [0, 3] (fun vn vo wr => ∃ (m : Nat) (pre rest : List Nat), vn = .int .u64 (m : Int) ∧ 1 ≤ m ∧ m < 1099511627776 ∧ Hid (Fac true m p rest) ∧ Hid (l = pre ++ rest) ∧ wr.ownsRow w.heap.size 31 1 vo pre.length (uvs pre) ∧ Below w.heap.size w wr)
        (fun vn _ _ => (intOf vn).toNat)
      case atStart => exact ⟨m, pre, rest, rfl, hm1, hmu, HIN, hxs, hO, hB⟩
      case round =>
        clear hO hB HIN hxs hm1 hmu o1 d1
        obtain ⟨m, pre, rest, rfl, hm1, hmu, hfac, hxs, hO, hB⟩ := hrel
        have nz : ((p : Int) == 0) = false := by rw [beq_eq_false_iff_ne]; omega
        have nz2 : ¬ ((p : Int) = 0) := by omega
        have m1 : (m : Int).tmod (p : Int) = ((m % p : Nat) : Int) := by rw [Int.tmod_eq_emod_of_nonneg (by omega)]; simp
        have q1 : (m : Int).tdiv (p : Int) = ((m / p : Nat) : Int) := by rw [Int.tdiv_eq_ediv_of_nonneg (by omega)]; simp
        by_cases hd : m % p = 0
        · obtain ⟨rest', hr', hfac'⟩ := hfac.out.inv_true.1 hd
          rw [hd] at m1
          have hpm : p ≤ m := Nat.le_of_dvd (by omega) (Nat.dvd_of_mod_eq_zero hd)
          have hd1 : 1 ≤ m / p := (Nat.le_div_iff_mul_le (by omega)).2 (by omega)
          have hd2 : m / p < m := Nat.div_lt_self (by omega) (by omega)
          have hx2 : l = pre ++ [p] ++ rest' := by rw [hxs.out, hr']; simp
          have hpl2 : pre.length ≤ 39 := by have := congrArg List.length hx2; simp at this; omega
          have HX2 := Lib.hid hx2
          have HF2 := Lib.hid hfac'
          have HDD := Lib.hid (And.intro hd1 hd2)
          obtain ⟨mq, hmq⟩ : ∃ mq, m / p = mq := ⟨_, rfl⟩
          rw [hmq] at q1 HF2 HDD
          have w1 : IntKind.u64.wrap ((mq : Nat) : Int) = (mq : Int) := wraps_u64 _ (by omega) (by have := HDD.out.2; omega)
          clear hd hr' hfac' hpm hd1 hd2 hx2 hmq hfac hxs
          go_wp2_with (at_builtin; refine wpList_append_own _ rfl (.tmp 16) (.tmp 18) 67 rfl w.heap.size 31 i0 (.int .u64 0) 1 8 Tryd.underlying67 hi hz0 hz1 hz2 rfl (by decide) _ pre.length (uvs pre) rfl (hO.alloc _) ⟨wr.heap.size, 0, none⟩ 1 1 [.int .u64 (p : Int)] rfl rfl (one_cell (new_cell0 _ _ _ _)) (by simp [Value.oneCell']) (by unfold maxLen; omega) (by omega) (by simp; have := hB.size; omega) ?_)
          intro v' w' hown' hgrow _
          have hB' := (hB.alloc hB.size (.cells #[.int .u64 (p : Int)] 31)).grown hgrow (by simp; have := hB.size; omega) (fun k e => (hO.lt k e).1)
          go_wp2_with fail
          exact ⟨⟨mq, pre ++ [p], rest', rfl, HDD.out.1, by have := HDD.out.2; omega, HF2, HX2, by rw [uvs_app, List.length_append]; exact hown', hB'⟩, by simp [intOf]; exact HDD.out.2⟩
        · have hnx := hfac.out.inv_true.2 hd
          have HNX := Lib.hid hnx
          have hml := Nat.mod_lt m (show 0 < p by omega)
          obtain ⟨r, hr⟩ : ∃ r, m % p = r := ⟨_, rfl⟩
          rw [hr] at m1 hd hml
          clear hnx hr hfac
          go_wp2_with fail
          exact ⟨⟨p + 1, m, pre, rest, by go_num, rfl, by omega, by omega, hm1, hmu, HNX, hxs, hO, hB⟩, by simp [intOf]; omega⟩
    · have d1 : decide (p * p ≤ m) = false := decide_eq_false h
      obtain ⟨i1, i2⟩ := hfac.out.inv_false.2 h
      obtain ⟨pp, hpp2⟩ : ∃ pp, p * p = pp := ⟨_, rfl⟩
      rw [hpp2] at o1 d1
      clear hfac h hpp hpp2
      by_cases h1n : 1 < m
      · have hr := i1 h1n
        have hx2 : l = pre ++ [m] := by rw [hxs.out, hr]
        have hpl2 : pre.length ≤ 39 := by have := congrArg List.length hx2; simp at this; omega
        have HX2 := Lib.hid hx2
        have d2 : decide ((1 : Int) < (m : Int)) = true := decide_eq_true (by omega)
        clear i1 i2 hr hx2 hxs h1n
        go_wp2_with (at_builtin; refine wpList_append_own _ rfl (.tmp 25) (.tmp 27) 67 rfl w.heap.size 31 i0 (.int .u64 0) 1 8 Tryd.underlying67 hi hz0 hz1 hz2 rfl (by decide) _ pre.length (uvs pre) rfl (hO.alloc _) ⟨wr.heap.size, 0, none⟩ 1 1 [.int .u64 (m : Int)] rfl rfl (one_cell (new_cell0 _ _ _ _)) (by simp [Value.oneCell']) (by unfold maxLen; omega) (by omega) (by simp; have := hB.size; omega) ?_)
        intro v' w' hown' hgrow _
        have hB' := (hB.alloc hB.size (.cells #[.int .u64 (m : Int)] 31)).grown hgrow (by simp; have := hB.size; omega) (fun k e => (hO.lt k e).1)
        go_wp2_with fail
        go_ret
        refine ⟨⟨_, rfl, ?_⟩, hB'⟩
        rw [HX2.out, uvs_app, List.length_append]
        exact hown'
      · have hr := i2 h1n
        have hx2 : l = pre := by rw [hxs.out, hr]; simp
        have HX2 := Lib.hid hx2
        have d2 : decide ((1 : Int) < (m : Int)) = false := decide_eq_false (by omega)
        have d3 : ¬ ((1 : Int) < (m : Int)) := by omega
        clear i1 i2 hr hx2 hxs h1n
        go_wp2_with fail
        go_ret
        exact ⟨⟨_, rfl, by rw [HX2.out]; exact hO⟩, hB⟩
theorem Below.drewN (B : Nat) (w : World) (n : Nat) : Below B w (w.drewN n) := ⟨rfl, rfl, rfl, Nat.le_refl _, fun _ _ => rfl⟩
theorem SL.form {W : World} {v : Value} {L : List ByteArray} (h : SL W v L) : ∃ a c, v = .slice a L.length c ∧ Hid (∀ k (hk : k < L.length), ∃ b, a = some ⟨b, 0, none⟩ ∧ b < W.heap.size ∧ W.cell? ⟨b, k, none⟩ = some (.string L[k])) := by
  rcases h with ⟨rfl, rfl⟩ | ⟨b, c, rfl, h2, h3, h4⟩
  · exact ⟨none, 0, rfl, fun k hk => by simp at hk⟩
  · exact ⟨_, c, rfl, fun k hk => ⟨b, rfl, h3, h4 k hk⟩⟩
set_option maxHeartbeats 1000000 in
theorem eqN_same (u v : Value) (L : List ByteArray) (w : World) (hu : SL w u L) (hv : SL w v L) (hL : L.length ≤ 1000000) :
    Calls Tryd.prog 26 #[u, v] w fun e w' => e = .returned (.bool true) ∧ Below w.heap.size w w' := by
  obtain ⟨a1, c1, rfl, H1⟩ := hu.form
  obtain ⟨a2, c2, rfl, H2⟩ := hv.form
  obtain ⟨n, hn⟩ : ∃ n, L.length = n := ⟨_, rfl⟩
  simp only [hn] at H1 H2 ⊢
  rw [hn] at hL
  clear hu hv
  go_enter Tryd.func26, Tryd.ntmps26
  go_wp2_with fail
  go_loopw [13] (fun i wr => ∃ k : Nat, k ≤ n ∧ i = .int .i64 k ∧ Below w.heap.size w wr) (fun i _ => n - (intOf i).toNat)
  case atStart => exact ⟨0, by omega, rfl, Below.refl _ _⟩
  case round =>
    obtain ⟨k, hk, rfl, hB⟩ := hrel
    by_cases hlt : k < n
    · obtain ⟨b1, rfl, hb1, hc1⟩ := H1.out k hlt
      obtain ⟨b2, rfl, hb2, hc2⟩ := H2.out k hlt
      have d1 := (hB.cell (p := ⟨b1, k, none⟩) hb1).trans hc1
      have d2 := (hB.cell (p := ⟨b2, k, none⟩) hb2).trans hc2
      generalize L[k] = x at d1 d2
      clear hc1 hc2 hb1 hb2
      go_wp2_with fail
      go_quiet (fail)
      go_wp2_with fail
      exact ⟨⟨k + 1, by omega, by go_num, hB.trans (Below.drewN _ _ _)⟩, by simp [intOf]; omega⟩
    · obtain rfl : k = n := by omega
      go_wp2_with fail
      go_ret
      exact ⟨rfl, hB⟩
theorem ownb {w w' : World} {B e size n : Nat} {v : Value} {xs : List Value} (h : w.ownsRow B e size v n xs) (hb : Below w.heap.size w w') : w'.ownsRow B e size v n xs := by
  rcases h with ⟨h0, h | ⟨g, cap, cur, h1, h2, h3, h4⟩⟩
  · exact ⟨h0, .inl h⟩
  · exact ⟨h0, .inr ⟨g, cap, cur, h1, h2, (hb.block g (Array.getElem?_eq_some_iff.1 h3).1).trans h3, h4⟩⟩
theorem ul_form {W : World} {B : Nat} {v : Value} {l : List Nat} (h : W.ownsRow B 31 1 v l.length (uvs l)) : ∃ a c, v = .slice a l.length c ∧ Hid (∀ (k x : Nat), l[k]? = some x → ∃ b, a = some ⟨b, 0, none⟩ ∧ b < W.heap.size ∧ W.cell? ⟨b, k, none⟩ = some (.int .u64 (x : Int))) := by
  have h' := h
  rcases h.2 with ⟨rfl, h0⟩ | ⟨g, cap, cur, rfl, _, h3, _⟩
  · obtain rfl := List.length_eq_zero_iff.1 h0
    exact ⟨none, 0, rfl, fun k x hk => by simp at hk⟩
  · refine ⟨_, cap, rfl, fun k x hk => ⟨g, rfl, (Array.getElem?_eq_some_iff.1 h3).1, ?_⟩⟩
    have hlt : k < l.length := (List.getElem?_eq_some_iff.1 hk).1
    rw [h'.cellAt k (by omega)]
    simp [uvs, hk]
theorem refFactors_bad (s : ByteArray) (w : World) (hv : validB s = false) :
    Calls Tryd.prog 25 #[.string s] w fun e w' => e = .returned (.tuple #[.slice none 0 0, .int .i64 3]) ∧ Below w.heap.size w w' := by
  go_enter Tryd.func25, Tryd.ntmps25
  go_wp2_with fail
  refine (refFormed_any _ _).mono ?_; rintro e w' ⟨rfl, rfl⟩
  rw [hv]
  go_wp2_with fail
  go_ret2
  exact ⟨rfl, Below.refl _ _⟩
theorem refFactors_zero (s : ByteArray) (w : World) (hv : IsN s (nv s)) (h0 : nv s = 0) :
    Calls Tryd.prog 25 #[.string s] w fun e w' => e = .returned (.tuple #[.slice none 0 0, .int .i64 11]) ∧ Below w.heap.size w w' := by
  have he : s = ⟨#[]⟩ := by
    rw [hv.eq, h0]
    rfl
  subst he
  go_enter Tryd.func25, Tryd.ntmps25
  go_wp2_with fail
  refine (refFormed_any _ _).mono ?_; rintro e w' ⟨rfl, rfl⟩
  rw [show validB ⟨#[]⟩ = true from by decide +kernel]
  go_wp2_with fail
  go_ret2
  exact ⟨rfl, Below.refl _ _⟩
theorem refFactors_long (s : ByteArray) (w : World) (hv : validB s = true) (hs : s.size ≤ 1000000) (h8 : 8 < s.size ∨ 1099511627776 ≤ nv s) (h9 : s.size ≤ 8 → nv s < 18446744073709551616) :
    Calls Tryd.prog 25 #[.string s] w fun e w' => e = .returned (.tuple #[.slice none 0 0, .int .i64 5]) ∧ Below w.heap.size w w' := by
  have hs0 : s.size ≠ 0 := by
    intro e
    have h2 := bytes_zero e
    subst h2
    rcases h8 with h | h
    · omega
    · exact absurd h (by decide +kernel)
  have ne1 := (toList_nonempty hs0).1
  have ne2 := (toList_nonempty hs0).2
  go_enter Tryd.func25, Tryd.ntmps25
  go_wp2_with fail
  refine (refFormed_any _ _).mono ?_; rintro e w' ⟨rfl, rfl⟩
  rw [hv]
  go_wp2_with fail
  refine (refU_any _ _ hs).mono ?_; rintro e w' ⟨rfl, rfl⟩
  by_cases h : s.size ≤ 8
  · have hb := h8.resolve_left (by omega)
    have hlt := h9 h
    rw [show decide (s.size ≤ 8) = true from decide_eq_true h, Nat.mod_eq_of_lt hlt]
    obtain ⟨n, hn⟩ : ∃ n, nv s = n := ⟨_, rfl⟩
    rw [hn] at hb ⊢
    have d1 : decide ((1099511627776 : Int) ≤ (n : Int)) = true := decide_eq_true (by omega)
    have d2 : decide (1099511627776 ≤ n) = true := decide_eq_true (by omega)
    clear hb hlt h8 h9 hn
    go_wp2_with fail
    go_ret2
    exact ⟨rfl, Below.refl _ _⟩
  · rw [show decide (s.size ≤ 8) = false from decide_eq_false h]
    clear h8 h9
    go_wp2_with fail
    go_ret2
    exact ⟨rfl, Below.refl _ _⟩
set_option maxHeartbeats 4000000 in
theorem refFactors_ok (s : ByteArray) (l : List Nat) (w : World) (hv : IsN s (nv s)) (h8 : s.size ≤ 8) (h0 : 1 ≤ nv s) (hb : nv s < 1099511627776) (hF : Fac false (nv s) 2 l) :
    Calls Tryd.prog 25 #[.string s] w fun e w' => (∃ v, e = .returned (.tuple #[v, .int .i64 0]) ∧ SL w' v (l.map enc)) ∧ Below w.heap.size w w' := by
  have hs0 : s.size ≠ 0 := by
    intro e
    have h2 := bytes_zero e
    subst h2
    exact absurd h0 (by decide +kernel)
  have ne1 := (toList_nonempty hs0).1
  have ne2 := (toList_nonempty hs0).2
  have hlen := hF.len h0 (by omega)
  have hl40 : l.length ≤ 40 := by
    rcases Nat.lt_or_ge 40 l.length with h | h
    · have h1 : 2 ^ 41 ≤ 2 ^ l.length := Nat.pow_le_pow_right (by omega) h
      omega
    · exact h
  have hmem := hF.mem_le h0 (by omega)
  have HV := Lib.hid hv.valid
  obtain ⟨i0, hi, hz0, hz1, hz2⟩ := info_parts info_natS
  obtain ⟨n, hn⟩ : ∃ n, nv s = n := ⟨_, rfl⟩
  rw [hn] at hb h0 hF hmem
  have HN := Lib.hid hn
  have HF := Lib.hid hF
  have HM := Lib.hid hmem
  have d1 : decide ((1099511627776 : Int) ≤ (n : Int)) = false := decide_eq_false (by omega)
  have d2 : decide (1099511627776 ≤ n) = false := decide_eq_false (by omega)
  have HB := Lib.hid (And.intro h0 hb)
  have H8 := Lib.hid h8
  have d8 : decide (s.size ≤ 8) = true := decide_eq_true h8
  clear hv hn hF hlen hmem h0 hb h8
  go_enter Tryd.func25, Tryd.ntmps25
  go_wp2_with fail
  refine (refFormed_any _ _).mono ?_; rintro e w' ⟨rfl, rfl⟩
  rw [HV.out]
  go_wp2_with fail
  refine (refU_any _ _ (by have := H8.out; omega)).mono ?_; rintro e w' ⟨rfl, rfl⟩
  rw [HN.out, Nat.mod_eq_of_lt (show n < 18446744073709551616 by have := HB.out.2; omega), d8]
  go_wp2_with fail
  refine (refFactorsU_any n l _ HB.out.1 HB.out.2 HF.out).mono ?_
  rintro e w1 ⟨⟨v1, rfl, hO⟩, hB1⟩
  obtain ⟨a1, c1, rfl, HU⟩ := ul_form hO
  obtain ⟨m, hm⟩ : ∃ m, l.length = m := ⟨_, rfl⟩
  rw [hm] at hl40 ⊢
  have HMM := Lib.hid hm
  clear hO hm
  go_wp2_with fail
  go_loopw [7, 8] (fun vo i wr => ∃ k : Nat, k ≤ m ∧ i = .int .i64 k ∧ wr.ownsRow w1.heap.size 22 1 vo k ((l.take k).map fun p => Value.string (enc p)) ∧ Below w1.heap.size w1 wr) (fun _ i _ => m - (intOf i).toNat)
  case atStart => exact ⟨0, by omega, rfl, World.ownsRow_nil _ _ _ _, Below.refl _ _⟩
  case round =>
    obtain ⟨k, hk, rfl, hR, hB⟩ := hrel
    by_cases hlt : k < m
    · have hkl : k < l.length := by rw [HMM.out]; exact hlt
      obtain ⟨b1, rfl, hb1, hc1⟩ := HU.out k l[k] (List.getElem?_eq_getElem hkl)
      have g1 := (hB.cell (p := ⟨b1, k, none⟩) hb1).trans hc1
      have hx := HM.out l[k] (List.getElem_mem hkl)
      have HT : Hid ((l.take (k + 1)) = l.take k ++ [l[k]]) := List.take_succ_eq_append_getElem hkl
      generalize l[k] = x at g1 hx HT
      have HX : Hid (x < 18446744073709551616) := by show _ < _; have := HB.out.2; omega
      clear hc1 hx hb1 hkl
      go_wp2_with fail
      refine (ref4Of_any x _ HX.out).mono ?_
      rintro e w2 ⟨rfl, h2⟩
      go_wp2_with (at_builtin; refine wpList_append_own _ rfl (.tmp 33) (.tmp 39) 47 rfl w1.heap.size 22 i0 (.string ⟨#[]⟩) 1 16 Tryd.underlying47 hi hz0 hz1 hz2 rfl (by decide) _ k ((l.take k).map fun p => Value.string (enc p)) rfl ((ownb hR h2).alloc _) ⟨w2.heap.size, 0, none⟩ 1 1 [.string (enc x)] rfl rfl (one_cell (new_cell0 _ _ _ _)) (by simp [Value.oneCell']) (by unfold maxLen; omega) (by omega) (by simp; have := hB.size; have := h2.size; omega) ?_)
      intro v' w' hown' hgrow _
      have hR2 := ownb hR h2
      have hB2 := hB.trans (h2.mono hB.size)
      have hB' := (hB2.alloc hB2.size (.cells #[.string (enc x)] 22)).grown hgrow (by simp; have := hB2.size; omega) (fun k e => (hR2.lt k e).1)
      go_wp2_with fail
      exact ⟨⟨k + 1, by omega, by go_num, by rw [HT.out, List.map_append, List.map_take]; exact hown', hB'⟩, by simp [intOf]; omega⟩
    · obtain rfl : k = m := by omega
      go_wp2_with fail
      go_ret2
      refine ⟨⟨_, rfl, SL.of_own (B := w1.heap.size) ?_⟩, hB1.trans (hB.mono hB1.size)⟩
      rw [List.length_map, List.map_map, HMM.out]
      rw [List.take_of_length_le (by rw [HMM.out]; omega)] at hR
      exact hR
end Go.Proofs.YtphlmgdcpdjlpaaDoor
