/- Contracts of the package prime: is. -/
import Derived.Test.YtjminjliomffaaaDoorPrmA
import Derived.Deep.LoopGhost
import Derived.WalkMore
namespace Go.Proofs.YtjminjliomffaaaDoor
open Go.RowKit Num
set_option maxRecDepth 20000
set_option linter.unusedVariables false

theorem Tab.lt {w : World} (h : Tab w) : 0 < w.heap.size := World.block_lt_of_cell? w _ (h 0 (by omega))
theorem Tab.below {w w' : World} (h : Tab w) (hb : Below w.heap.size w w') : Tab w' := by
  intro j hj
  rw [← h j hj]
  unfold World.cell?
  rw [show w'.heap[(⟨0, j, none⟩ : Addr).block]? = _ from hb.block _ h.lt]
theorem info_u64 : (Tryd.prog.info? 23).map (fun i => (i.zero, i.size, i.bytes)) = some (some (.int .u64 0), 1, 8) := by kernel_rfl
theorem base_at (k p : Nat) (w : World) (h : k < 12) (hp : bases[k]! = p) : (Instr.index 73 (.agg (icells .u64 12 bf)) (.int .i64 (k : Int))).run Tryd.prog w = .ok (.int .u64 (p : Int)) w := by
  obtain ⟨i0, hi, hz0, hz1, hz2⟩ := info_parts info_u64
  have := run_index_arr (P := Tryd.prog) (k := .u64) (f := bf) 73 23 .i64 k w Tryd.underlying73 h i0 hi hz1 _ Tryd.underlying23 rfl
  rw [this]
  unfold bf
  rw [hp]
set_option maxHeartbeats 4000000 in
theorem is_any (n : Nat) (w : World) (hn : n < 18446744073709551616) (hT : Tab w) :
    Calls Tryd.prog 20 #[.int .u64 (n : Int)] w fun e w' => e = .returned (.bool (isB n)) ∧ Below w.heap.size w w' := by
  rcases Nat.lt_or_ge n 2 with h2 | h2
  · have hb := isB_small h2
    have HB := Lib.hid hb
    clear hb
    go_enter Tryd.func20, Tryd.ntmps20
    go_wp2_with fail
    go_step3
    go_wp2_with fail
    try rw [Exit.noGoto_ret]
    go_ret
    exact ⟨ret_bool HB.out.symm, Below.refl _ _⟩
  · have HTB := Lib.hid hT
    clear hT
    go_enter Tryd.func20, Tryd.ntmps20
    go_wp2_with fail
    go_step3
    go_wp2_with fail
    refine (prbases_any _).mono ?_
    rintro e w1 ⟨rfl, hb1⟩
    go_wp2_with fail
    go_loop [14] (fun i => ∃ k : Nat, k ≤ 12 ∧ i = .int .i64 k ∧ Hid (∀ j : Nat, j < k → n % bases[j]! ≠ 0)) (fun i => 12 - (intOf i).toNat)
    case atStart => exact ⟨0, by omega, rfl, fun j h => by omega⟩
    case round =>
      obtain ⟨k, hk, rfl, hno⟩ := hrel
      by_cases hlt : k < 12
      · have hpb : ∀ i : Nat, i < 12 → bases[i]! ≤ 37 ∧ 2 ≤ bases[i]! := by decide
        obtain ⟨hp1, hp2⟩ := hpb k hlt
        clear hpb
        obtain ⟨p, hp⟩ : ∃ p, bases[k]! = p := ⟨_, rfl⟩
        have hrun := fun w => base_at k p w hlt hp
        rw [hp] at hp1 hp2
        have HP := Lib.hid hp
        clear hp
        have nz : ((p : Int) == 0) = false := by rw [beq_eq_false_iff_ne]; omega
        have nz2 : ¬ ((p : Int) = 0) := by omega
        have m1 : (n : Int).tmod (p : Int) = ((n % p : Nat) : Int) := by rw [Int.tmod_eq_emod_of_nonneg (by omega)]; simp
        by_cases hd : n % p = 0
        · rw [hd] at m1
          have hr := isB_div h2 hlt hno.out (by rw [HP.out]; exact hd)
          rw [HP.out] at hr
          have HR := Lib.hid hr
          clear hr
          go_wp2_with fail
          try rw [Exit.noGoto_ret]
          go_ret
          exact ⟨ret_bool (by rw [HR.out, Bool.eq_iff_iff, beq_iff_eq, beq_iff_eq]; omega), hb1⟩
        · have hno2 : Hid (∀ j : Nat, j < k + 1 → n % bases[j]! ≠ 0) := fun j hj => by
            by_cases e : j = k
            · subst e; rw [HP.out]; exact hd
            · exact hno.out j (by omega)
          have hm := Nat.mod_lt n (show 0 < p by omega)
          obtain ⟨m, hm0⟩ : ∃ m, n % p = m := ⟨_, rfl⟩
          rw [hm0] at m1 hd hm
          clear hm0
          go_wp2_with fail
          exact ⟨⟨k + 1, by omega, by go_num, hno2⟩, by simp [intOf]; omega⟩
      · obtain rfl : k = 12 := by omega
        obtain ⟨h37, hodd⟩ := no_base h2 hno.out
        obtain ⟨hts, hto⟩ := tz_spec (n - 1) (by omega)
        have ht64 := tz_lt (n := n - 1) (by omega) 64 (by omega)
        have ht1 : 1 ≤ tz (n - 1) := by rw [tz_even (by omega) (by omega)]; omega
        have HT1 := HTB.out.below hb1
        have htz : ∀ w, Tab w → Calls Tryd.prog 43 #[.int .u64 ((n : Int) - 1)] w fun e w' => e = .returned (.int .i64 ((tz (n - 1) : Nat) : Int)) ∧ w' = w := fun w hw => by
          have := tz64_any (n - 1) w (by omega) (by omega) hw
          rw [show ((n - 1 : Nat) : Int) = (n : Int) - 1 from by omega] at this
          exact this
        have hdq : ((n : Int) - 1) / 2 ^ (tz (n - 1)) = ((odp (n - 1) : Nat) : Int) := by
          rw [show (n : Int) - 1 = ((n - 1 : Nat) : Int) from by omega]
          unfold odp; simp
        have hdl : odp (n - 1) ≤ n - 1 := Nat.div_le_self _ _
        obtain ⟨s, hs⟩ : ∃ s, tz (n - 1) = s := ⟨_, rfl⟩
        obtain ⟨d, hd⟩ : ∃ d, odp (n - 1) = d := ⟨_, rfl⟩
        rw [hs] at htz hdq ht64 ht1
        rw [hd] at hdq hdl
        have HS := Lib.hid hs
        have HD := Lib.hid hd
        have HTZ := Lib.hid htz
        have HT1' := Lib.hid HT1
        have HDQ := Lib.hid hdq
        have sdiv0 : 0 ≤ ((n : Int) - 1) / 2 ^ s := by rw [hdq]; omega
        have sdiv1 : ((n : Int) - 1) / 2 ^ s ≤ 18446744073709551615 := by rw [hdq]; omega
        clear hs hd htz HT1 hdq hts hto
        go_wp2_with fail
        refine (HTZ.out _ HT1'.out).mono ?_
        rintro e w2 ⟨rfl, rfl⟩
        go_wp2_with fail
        rw [HDQ.out]
        clear HDQ HTZ sdiv0 sdiv1 HTB HT1'
        go_step3
        go_wp2_with fail
        refine (prbases_any _).mono ?_
        rintro e w3 ⟨rfl, hb3⟩
        have hb4 := hb1.trans (hb3.mono hb1.size)
        clear hb1 hb3
        go_wp2_with fail
        go_loopg [33] 12 (fun g v wr => ∃ k : Nat, k + g = 12 ∧ v = .int .i64 k ∧ Hid (∀ i : Nat, i < k → strongB n bases[i]! = true) ∧ Below w.heap.size w wr)
        case atStart => exact ⟨0, by omega, rfl, fun i h => by omega, hb4⟩
        case round =>
          clear hb4
          obtain ⟨k, hkg, rfl, hst, hb⟩ := hrel
          cases gk with
          | zero =>
            obtain rfl : k = 12 := by omega
            have hyes := isB_yes h2 hno.out hst.out
            have HY := Lib.hid hyes
            clear hyes
            go_wp2_with fail
            try rw [Exit.noGoto_ret]
            go_ret
            exact ⟨ret_bool HY.out.symm, hb⟩
          | succ g =>
            have hlt2 : k < 12 := by omega
            have hpb : ∀ i : Nat, i < 12 → bases[i]! ≤ 37 ∧ 2 ≤ bases[i]! := by decide
            obtain ⟨hp1, hp2⟩ := hpb k hlt2
            clear hpb
            obtain ⟨p, hp⟩ : ∃ p, bases[k]! = p := ⟨_, rfl⟩
            have hrun := fun w => base_at k p w hlt2 hp
            rw [hp] at hp1 hp2
            have HP := Lib.hid hp
            clear hp
            have nz : ((n : Int) == 0) = false := by rw [beq_eq_false_iff_ne]; omega
            have nz2 : ¬ ((n : Int) = 0) := by omega
            have m1 : (p : Int).tmod (n : Int) = (p : Int) := by rw [Int.tmod_eq_emod_of_nonneg (by omega), Int.emod_eq_of_lt (by omega) (by omega)]
            have zb := hb.size
            -- what a round that goes on hands on
            have hgo : strongB n p = true → Hid (∀ i : Nat, i < k + 1 → strongB n bases[i]! = true) := fun h i hi => by
              by_cases e : i = k
              · subst e; rw [HP.out]; exact h
              · exact hst.out i (by omega)
            have HGO := Lib.hid hgo
            clear hgo
            go_wp2_with fail
            refine (prpow_any p d n _ (by omega) (by omega) (by omega) hn).mono ?_
            rintro e w4 ⟨rfl, hb4⟩
            have hb5 := hb.trans (hb4.mono zb)
            clear hb hb4 m1 hrun
            obtain ⟨x, hx⟩ : ∃ x, p ^ d % n = x := ⟨_, rfl⟩
            have hxn : x < n := by rw [← hx]; exact Nat.mod_lt _ (by omega)
            rw [hx]
            have HX := Lib.hid hx
            clear hx
            by_cases x1 : x = 1
            · have hs1 : strongB n p = true := strong_one (by rw [HD.out, HX.out, x1])
              have HS1 := Lib.hid (HGO.out hs1)
              subst x1
              clear HX hs1 HGO
              go_wp2_with fail
              go_roundg g
              case rel => exact ⟨k + 1, by omega, by go_num, HS1, hb5⟩
              case measure => omega
            · have nx1 : p ^ odp (n - 1) % n ≠ 1 := by rw [HD.out, HX.out]; exact x1
              have NX1 := Lib.hid nx1
              clear nx1
              by_cases x2 : x = n - 1
              · have hs1 : strongB n p = true := strong_hit (i := 0) (by rw [HS.out]; omega) (by unfold hit; rw [HD.out]; simp [HX.out, x2])
                have HS1 := Lib.hid (HGO.out hs1)
                have t1 : ((x : Int) == 1) = false := by rw [beq_eq_false_iff_ne]; omega
                have t2 : ((x : Int) == (n : Int) - 1) = true := by rw [beq_iff_eq]; omega
                clear HX hs1 HGO x1 x2
                go_wp2_with fail
                go_roundg g
                case rel => exact ⟨k + 1, by omega, by go_num, HS1, hb5⟩
                case measure => omega
              · have t1 : ((x : Int) == 1) = false := by rw [beq_eq_false_iff_ne]; omega
                have t2 : ((x : Int) == (n : Int) - 1) = false := by rw [beq_eq_false_iff_ne]; omega
                have hh0 : Hid (∀ j, j < 1 → hit n p j = false) := fun j hj => by
                  obtain rfl : j = 0 := by omega
                  unfold hit
                  rw [HD.out]
                  simp [HX.out, x2]
                have HX0 : Hid (x = p ^ (d * 2 ^ (1 - 1)) % n) := by show _ = _; rw [← HX.out]; simp
                clear HX x1 x2
                go_wp2_with fail
                clear t1 t2
                go_loopg [9, 10] (s - 1) (fun g3 vx vi wr => ∃ (i xx : Nat), i + g3 = s ∧ vi = .int .i64 i ∧ 1 ≤ i ∧ vx = .int .u64 (xx : Int) ∧ xx < n ∧ Hid (xx = p ^ (d * 2 ^ (i - 1)) % n) ∧ Hid (∀ j, j < i → hit n p j = false) ∧ Below w.heap.size w wr)
                case atStart => exact ⟨1, x, by omega, rfl, by omega, rfl, hxn, HX0, hh0, hb5⟩
                case round =>
                  clear hb5 HX0 hh0 hxn zb
                  obtain ⟨i, xx, hig, rfl, hi1, rfl, hxx, hxe, hno3, hb⟩ := hrel
                  have zb := hb.size
                  cases gk with
                  | zero =>
                    obtain rfl : i = s := by omega
                    have hbn : isB n = false := isB_no h2 hno.out hlt2 (by rw [HP.out]; exact strong_no NX1.out (by rw [HS.out]; exact hno3.out))
                    have HBN := Lib.hid hbn
                    clear hbn
                    go_wp2_with fail
                    try rw [Exit.noGoto_ret]
                    go_ret
                    exact ⟨ret_bool HBN.out.symm, hb⟩
                  | succ g3 =>
                    have his : i < s := by omega
                    go_wp2_with fail
                    refine (prmul_any xx xx n _ hxx hxx hn).mono ?_
                    rintro e w6 ⟨rfl, hb6⟩
                    have hb7 := hb.trans (hb6.mono zb)
                    clear hb hb6
                    have hsq : xx * xx % n = p ^ (d * 2 ^ i) % n := by
                      rw [hxe.out, sq_next]; congr 4; omega
                    obtain ⟨y, hy⟩ : ∃ y, xx * xx % n = y := ⟨_, rfl⟩
                    have hyn : y < n := by rw [← hy]; exact Nat.mod_lt _ (by omega)
                    rw [hy] at hsq ⊢
                    have HSQ := Lib.hid hsq
                    clear hy hsq
                    by_cases hyy : y = n - 1
                    · have hs1 : strongB n p = true := strong_hit (i := i) (by rw [HS.out]; exact his) (by unfold hit; rw [HD.out, ← HSQ.out, hyy]; simp)
                      have HS1 := Lib.hid (HGO.out hs1)
                      have t2 : ((y : Int) == (n : Int) - 1) = true := by rw [beq_iff_eq]; omega
                      clear hs1 hyy
                      go_wp2_with fail
                      go_roundg g
                      case rel => exact ⟨k + 1, by omega, by go_num, HS1, hb7⟩
                      case measure => omega
                    · have t2 : ((y : Int) == (n : Int) - 1) = false := by rw [beq_eq_false_iff_ne]; omega
                      have hno4 : Hid (∀ j, j < i + 1 → hit n p j = false) := fun j hj => by
                        by_cases e : j = i
                        · subst e
                          unfold hit
                          rw [HD.out, ← HSQ.out]
                          simpa using hyy
                        · exact hno3.out j (by omega)
                      clear hyy
                      go_wp2_with fail
                      go_roundg g3
                      case rel => exact ⟨i + 1, y, by omega, by go_num, by omega, rfl, hyn, HSQ, hno4, hb7⟩
                      case measure => omega
end Go.Proofs.YtjminjliomffaaaDoor
