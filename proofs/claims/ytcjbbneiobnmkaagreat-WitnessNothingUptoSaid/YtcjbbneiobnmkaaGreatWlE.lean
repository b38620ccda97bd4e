/- The law WitnessNothing. -/
import Derived.Test.YtcjbbneiobnmkaaGreatWlP
namespace Go.Proofs.YtcjbbneiobnmkaaGreat
open Go.RowKit Num
set_option maxRecDepth 20000
set_option linter.unusedVariables false
/-- the boxes of a law of layer 36, and the lists -/
structure KX (w0 W : World) (b : Nat) (nm M O Z S : ByteArray) (rv : Value) (U H u wt : ByteArray) (a1 : Option Addr) (n1 c1 : Nat) (a2 : Option Addr) (n2 c2 : Nat) (acc : ByteArray) (la ld : List ByteArray) : Prop where
  k : KB W b nm M O Z S rv U H
  c : CB W (b + 1) u wt a1 n1 c1 a2 n2 c2 acc
  ca : CA W a1 n1 c1 la a2 n2 c2 ld
  lo : Below w0.heap.size w0 W
section
variable {nm M O Z S : ByteArray} {rv : Value} {U H u wt : ByteArray} {a1 : Option Addr} {n1 c1 : Nat} {a2 : Option Addr} {n2 c2 : Nat} {acc : ByteArray} {la ld : List ByteArray} {w0 W W' : World} {b : Nat}
theorem KX.below (h : KX w0 W b nm M O Z S rv U H u wt a1 n1 c1 a2 n2 c2 acc la ld) (hb : Below W.heap.size W W') : KX w0 W' b nm M O Z S rv U H u wt a1 n1 c1 a2 n2 c2 acc la ld :=
  ⟨h.k.below hb h.k.lt, h.c.below hb h.c.lt, h.ca.below hb (Nat.le_refl _), h.lo.trans (hb.mono h.lo.size)⟩
theorem KX.alloc (h : KX w0 W b nm M O Z S rv U H u wt a1 n1 c1 a2 n2 c2 acc la ld) (o : Obj) : KX w0 (W.alloc o) b nm M O Z S rv U H u wt a1 n1 c1 a2 n2 c2 acc la ld := h.below ((Below.refl _ W).alloc (Nat.le_refl _) o)
theorem KX.drew (h : KX w0 W b nm M O Z S rv U H u wt a1 n1 c1 a2 n2 c2 acc la ld) : KX w0 W.drew b nm M O Z S rv U H u wt a1 n1 c1 a2 n2 c2 acc la ld := h.below (Below.refl _ W).drew
end
theorem kx_new (nm M O Z S : ByteArray) (rv : Value) (U H u wt : ByteArray) (a1 : Option Addr) (n1 c1 : Nat) (a2 : Option Addr) (n2 c2 : Nat) (acc : ByteArray) (la ld : List ByteArray) (w : World) (hca : CA w a1 n1 c1 la a2 n2 c2 ld) :
    ∃ w1, (w.alloc (.cells #[.string nm, .string M, .string O, .string Z, .string S, rv, .string U, .string H] 63)).alloc (.cells #[.string u, .string wt, .slice a1 n1 c1, .slice a2 n2 c2, .string acc] 60) = w1 ∧
      KX w w1 w.heap.size nm M O Z S rv U H u wt a1 n1 c1 a2 n2 c2 acc la ld := by
  obtain ⟨w1, h1, h2, h3, h4⟩ := box_kc w nm M O Z S rv U H u wt a1 n1 c1 a2 n2 c2 acc
  exact ⟨w1, h1, h2, h3, hca.below h4 (Nat.le_refl _), h4⟩
set_option maxHeartbeats 8000000 in
theorem wnothing_walk (nm M O Z S : ByteArray) (rv : Value) (U H u wt : ByteArray) (a1 : Option Addr) (n1 c1 : Nat) (a2 : Option Addr) (n2 c2 : Nat) (acc : ByteArray) (la ld : List ByteArray) (w : World) (hsz : ∀ x ∈ ([M, O, u, wt, acc] ++ la) ++ ld, x.size ≤ maxLen) (hca : CA w a1 n1 c1 la a2 n2 c2 ld) :
    Calls Tryz.prog 13 #[.agg #[.string nm, .string M, .string O, .string Z, .string S, rv, .string U, .string H], .agg #[.string u, .string wt, .slice a1 n1 c1, .slice a2 n2 c2, .string acc]] w fun e w' => e = .returned (.bool true) ∧ Below w.heap.size w w' := by
  obtain ⟨w0, hw0, x0⟩ := kx_new nm M O Z S rv U H u wt a1 n1 c1 a2 n2 c2 acc la ld w hca
  have HS := Lib.hid (fun w h => small_ca nm M O Z S rv U H u wt a1 n1 c1 a2 n2 c2 acc la ld hsz w h)
  have j0_0 := x0.k.c0
  have j1_0 := x0.k.c1
  have j2_0 := x0.k.c2
  have j3_0 := x0.k.c3
  have j4_0 := x0.k.c4
  have j5_0 := x0.k.c5
  have j6_0 := x0.k.c6
  have j7_0 := x0.k.c7
  have k0_0 := x0.c.c0
  have k1_0 := x0.c.c1
  have k2_0 := x0.c.c2
  have k3_0 := x0.c.c3
  have k4_0 := x0.c.c4
  clear hca
  cases hs : smB M O u wt acc la ld
  · rw [hs] at HS
    clear hs hsz
    go_enter Tryz.func13, Tryz.ntmps13
    go_wp2_with fail
    refine (HS.out _ x0.ca).mono ?_; rintro e w1 ⟨rfl, b1⟩
    have x1 := x0.below b1
    go_wp2_with fail
    refine (awakeW _).mono ?_; rintro e wa ⟨rfl, ba⟩
    go_wp2_with fail
    go_ret
    exact ⟨rfl, (x1.below ba).lo⟩
  obtain ⟨l1, l2, h64, h16⟩ := smB_ok hs
  rw [hs] at HS
  clear hs hsz
  go_enter Tryz.func13, Tryz.ntmps13
  go_wp2_with fail
  refine (HS.out _ x0.ca).mono ?_; rintro e w1 ⟨rfl, b1⟩
  have x1 := x0.below b1
  clear j0_0 j1_0 j2_0 j3_0 j4_0 j5_0 j6_0 j7_0 k0_0 k1_0 k2_0 k3_0 k4_0
  have j0_1 := x1.k.c0
  have j1_1 := x1.k.c1
  have j2_1 := x1.k.c2
  have j3_1 := x1.k.c3
  have j4_1 := x1.k.c4
  have j5_1 := x1.k.c5
  have j6_1 := x1.k.c6
  have j7_1 := x1.k.c7
  have k0_1 := x1.c.c0
  have k1_1 := x1.c.c1
  have k2_1 := x1.c.c2
  have k3_1 := x1.c.c3
  have k4_1 := x1.c.c4
  clear HS
  go_wp2_with fail
  refine (r13Has_any M O wt _ h64).mono ?_; rintro e w2 ⟨rfl, b2⟩
  have x2 := x1.below b2
  clear j0_1 j1_1 j2_1 j3_1 j4_1 j5_1 j6_1 j7_1 k0_1 k1_1 k2_1 k3_1 k4_1
  have j0_2 := x2.k.c0
  have j1_2 := x2.k.c1
  have j2_2 := x2.k.c2
  have j3_2 := x2.k.c3
  have j4_2 := x2.k.c4
  have j5_2 := x2.k.c5
  have j6_2 := x2.k.c6
  have j7_2 := x2.k.c7
  have k0_2 := x2.c.c0
  have k1_2 := x2.c.c1
  have k2_2 := x2.c.c2
  have k3_2 := x2.c.c3
  have k4_2 := x2.c.c4
  cases hx : hasB M O wt
  · clear hx
    go_wp2_with fail
    refine (awakeW _).mono ?_; rintro e wa ⟨rfl, ba⟩
    go_wp2_with fail
    go_ret
    exact ⟨rfl, (x2.below ba).lo⟩
  go_wp2_with fail
  refine (r13Has_any M O acc _ h64).mono ?_; rintro e w3 ⟨rfl, b3⟩
  have x3 := x2.below b3
  clear j0_2 j1_2 j2_2 j3_2 j4_2 j5_2 j6_2 j7_2 k0_2 k1_2 k2_2 k3_2 k4_2
  have j0_3 := x3.k.c0
  have j1_3 := x3.k.c1
  have j2_3 := x3.k.c2
  have j3_3 := x3.k.c3
  have j4_3 := x3.k.c4
  have j5_3 := x3.k.c5
  have j6_3 := x3.k.c6
  have j7_3 := x3.k.c7
  have k0_3 := x3.c.c0
  have k1_3 := x3.c.c1
  have k2_3 := x3.c.c2
  have k3_3 := x3.c.c3
  have k4_3 := x3.c.c4
  cases hc : hasB M O acc
  · clear hc
    go_wp2_with fail
    refine (awakeW _).mono ?_; rintro e wa ⟨rfl, ba⟩
    go_wp2_with fail
    go_ret
    exact ⟨rfl, (x3.below ba).lo⟩
  have b4 := (Below.refl _ w3).alloc (Nat.le_refl _) (.cells #[.string u] 22)
  have hN4 := ns_one w3 u
  obtain ⟨w4, hw4⟩ : ∃ w', w3.alloc (.cells #[.string u] 22) = w' := ⟨_, rfl⟩
  rw [hw4] at b4 hN4
  have x4 := x3.below b4
  have j0_4 := x4.k.c0
  have j1_4 := x4.k.c1
  have j2_4 := x4.k.c2
  have j3_4 := x4.k.c3
  have j4_4 := x4.k.c4
  have j5_4 := x4.k.c5
  have j6_4 := x4.k.c6
  have j7_4 := x4.k.c7
  have k0_4 := x4.c.c0
  have k1_4 := x4.c.c1
  have k2_4 := x4.c.c2
  have k3_4 := x4.c.c3
  have k4_4 := x4.c.c4
  go_wp2_with fail
  refine (wrong_any _ _ 1 [u] _ hN4 rfl (by decide)).mono ?_; rintro e w4b ⟨rfl, rfl⟩
  cases hu : [u].any wrB
  rotate_left
  · clear hu
    go_wp2_with fail
    refine (awakeW _).mono ?_; rintro e wa ⟨rfl, ba⟩
    go_wp2_with fail
    go_ret
    exact ⟨rfl, (x4.below ba).lo⟩
  have hu' : wrB u = false := any_wr hu _ (by simp)
  obtain ⟨p1, p2, p3, p4⟩ := nothing_plain hx hc hu'
  have HU := fun w => update_any nm M O Z S rv U H wt u none none 0 0 0 0 [] [] acc w (fun k hk => by simp at hk) (fun k hk => by simp at hk) rfl rfl (by omega) (by omega)
  rw [p1, p2] at HU
  have HA := fun w => added_any nm M O Z S rv U H wt none 0 0 [] w (fun k hk => by simp at hk) rfl (by decide)
  rw [p3, p4] at HA
  have HU := Lib.hid HU
  have HA := Lib.hid HA
  clear p1 p2 p3 p4 hx hc hu hu' h16 l1 l2
  go_wp2_with fail
  refine (HU.out _).mono ?_; rintro e w5 ⟨rfl, b5⟩
  have x5 := x4.below b5
  clear j0_3 j1_3 j2_3 j3_3 j4_3 j5_3 j6_3 j7_3 k0_3 k1_3 k2_3 k3_3 k4_3 j0_4 j1_4 j2_4 j3_4 j4_4 j5_4 j6_4 j7_4 k0_4 k1_4 k2_4 k3_4 k4_4
  have j0_5 := x5.k.c0
  have j1_5 := x5.k.c1
  have j2_5 := x5.k.c2
  have j3_5 := x5.k.c3
  have j4_5 := x5.k.c4
  have j5_5 := x5.k.c5
  have j6_5 := x5.k.c6
  have j7_5 := x5.k.c7
  have k0_5 := x5.c.c0
  have k1_5 := x5.c.c1
  have k2_5 := x5.c.c2
  have k3_5 := x5.c.c3
  have k4_5 := x5.c.c4
  go_wp2_with fail
  refine (HA.out _).mono ?_; rintro e w6 ⟨rfl, b6⟩
  have x6 := x5.below b6
  clear j0_5 j1_5 j2_5 j3_5 j4_5 j5_5 j6_5 j7_5 k0_5 k1_5 k2_5 k3_5 k4_5
  have j0_6 := x6.k.c0
  have j1_6 := x6.k.c1
  have j2_6 := x6.k.c2
  have j3_6 := x6.k.c3
  have j4_6 := x6.k.c4
  have j5_6 := x6.k.c5
  have j6_6 := x6.k.c6
  have j7_6 := x6.k.c7
  have k0_6 := x6.c.c0
  have k1_6 := x6.c.c1
  have k2_6 := x6.c.c2
  have k3_6 := x6.c.c3
  have k4_6 := x6.c.c4
  go_wp2_with fail
  refine (awakeW _).mono ?_; rintro e wa ⟨rfl, ba⟩
  go_wp2_with fail
  go_ret
  exact ⟨rfl, (x6.below ba).lo⟩
end Go.Proofs.YtcjbbneiobnmkaaGreat
