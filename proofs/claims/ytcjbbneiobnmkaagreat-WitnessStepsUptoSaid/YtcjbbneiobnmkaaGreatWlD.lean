/- The law WitnessSteps. -/
import Derived.Test.YtcjbbneiobnmkaaGreatWlA
namespace Go.Proofs.YtcjbbneiobnmkaaGreat
open Go.RowKit Num
set_option maxRecDepth 20000
set_option linter.unusedVariables false
set_option maxHeartbeats 4000000 in
theorem wsteps_walk (nm M O Z S : ByteArray) (rv : Value) (U H u wt : ByteArray) (a1 : Option Addr) (n1 c1 : Nat) (a2 : Option Addr) (n2 c2 : Nat) (acc : ByteArray) (la ld : List ByteArray) (w : World) (hsz : ∀ x ∈ ([M, O, u, wt, acc] ++ la) ++ ld, x.size ≤ maxLen) (hca : CA w a1 n1 c1 la a2 n2 c2 ld) :
    Calls Tryz.prog 11 #[.agg #[.string nm, .string M, .string O, .string Z, .string S, rv, .string U, .string H], .agg #[.string u, .string wt, .slice a1 n1 c1, .slice a2 n2 c2, .string acc]] w fun e w' => e = .returned (.bool true) ∧ Below w.heap.size w w' := by
  obtain ⟨W0, hW0, hK, hC, hb⟩ := box_kc w nm M O Z S rv U H u wt a1 n1 c1 a2 n2 c2 acc
  have HCA := Lib.hid (hca.below hb (Nat.le_refl _))
  have HS := Lib.hid (fun w h => small_ca nm M O Z S rv U H u wt a1 n1 c1 a2 n2 c2 acc la ld hsz w h)
  have j0 := hK.c0
  have j1 := hK.c1
  have j2 := hK.c2
  have j3 := hK.c3
  have j4 := hK.c4
  have j5 := hK.c5
  have j6 := hK.c6
  have j7 := hK.c7
  have k0 := hC.c0
  have k1 := hC.c1
  have k2 := hC.c2
  have k3 := hC.c3
  have k4 := hC.c4
  clear hca
  cases hs : smB M O u wt acc la ld
  · rw [hs] at HS
    clear hs hsz
    go_enter Tryz.func11, Tryz.ntmps11
    go_wp2_with fail
    refine (HS.out _ HCA.out).mono ?_; rintro e w2 ⟨rfl, b2⟩
    have hb2 := hb.trans (b2.mono hb.size)
    go_wp2_with fail
    refine (awakeW _).mono ?_; rintro e wa ⟨rfl, ba⟩
    go_wp2_with fail
    go_ret
    exact ⟨rfl, hb2.trans (ba.mono hb2.size)⟩
  obtain ⟨l1, l2, h64, _⟩ := smB_ok hs
  rw [hs] at HS
  have HA1 := fun w (h : CA w a1 n1 c1 la a2 n2 c2 ld) => added_any nm M O Z S rv U H wt a1 c1 n1 la w h.l1 h.e1 (Nat.le_trans h.b1 (by decide))
  have HA2 := fun w (h : CA w a1 n1 c1 la a2 n2 c2 ld) => radded_any nm M O Z S rv U H wt a1 c1 n1 la w h.l1 h.e1 (by have := h.e1; omega) h64
  have HR1 := fun gone w => removed_any nm M O Z S rv U H wt u gone acc w
  have HR2 := fun gone w => rremoved_any nm M O Z S rv U H wt u gone acc w h64
  obtain ⟨E, hE⟩ : ∃ E, rdE M O [wt] la = E := ⟨_, rfl⟩
  rw [hE] at HA1 HA2
  obtain ⟨R, hR⟩ : ∃ R, (if E = 0 then adS M O wt la else ⟨#[]⟩ : ByteArray) = R := ⟨_, rfl⟩
  rw [hR] at HA1 HA2
  obtain ⟨fS, hfS⟩ : ∃ f : ByteArray → ByteArray, ∀ g, f g = upS M O wt acc u [] [g] := ⟨_, fun _ => rfl⟩
  obtain ⟨fE, hfE⟩ : ∃ f : ByteArray → Int, ∀ g, f g = upE M O wt acc u [] [g] := ⟨_, fun _ => rfl⟩
  simp only [← hfS, ← hfE] at HR1 HR2
  have HA1 := Lib.hid HA1
  have HA2 := Lib.hid HA2
  have HR1 := Lib.hid HR1
  have HR2 := Lib.hid HR2
  clear hs hsz hE hR l1 l2 h64 hfS hfE
  go_enter Tryz.func11, Tryz.ntmps11
  go_wp2_with fail
  refine (HS.out _ HCA.out).mono ?_; rintro e w2 ⟨rfl, b2⟩
  have hb2 := hb.trans (b2.mono hb.size)
  have hK2 := hK.below b2 hK.lt
  have hC2 := hC.below b2 hC.lt
  have HCA2 := Lib.hid (HCA.out.below b2 (Nat.le_refl _))
  clear j0 j1 j2 j3 j4 j5 j6 j7 k0 k1 k2 k3 k4 hb hK hC HCA b2 HS hW0
  have j0 := hK2.c0
  have j1 := hK2.c1
  have j2 := hK2.c2
  have j3 := hK2.c3
  have j4 := hK2.c4
  have j5 := hK2.c5
  have j6 := hK2.c6
  have j7 := hK2.c7
  have k1 := hC2.c1
  have k2 := hC2.c2
  go_wp2_with fail
  refine (HA1.out _ HCA2.out).mono ?_; rintro e w3 ⟨rfl, b3⟩
  have hb3 := hb2.trans (b3.mono hb2.size)
  have hK3 := hK2.below b3 hK2.lt
  have hC3 := hC2.below b3 hC2.lt
  have HCA3 := Lib.hid (HCA2.out.below b3 (Nat.le_refl _))
  clear j0 j1 j2 j3 j4 j5 j6 j7 k1 k2 hb2 hK2 hC2 HCA2 b3 HA1
  have j0 := hK3.c0
  have j1 := hK3.c1
  have j2 := hK3.c2
  have j3 := hK3.c3
  have j4 := hK3.c4
  have j5 := hK3.c5
  have j6 := hK3.c6
  have j7 := hK3.c7
  have k1 := hC3.c1
  have k2 := hC3.c2
  go_wp2_with fail
  refine (HA2.out _ HCA3.out).mono ?_; rintro e w4 ⟨rfl, b4⟩
  have hb4 := hb3.trans (b4.mono hb3.size)
  have hK4 := hK3.below b4 hK3.lt
  have hC4 := hC3.below b4 hC3.lt
  have HCA4 := Lib.hid (HCA3.out.below b4 (Nat.le_refl _))
  clear j0 j1 j2 j3 j4 j5 j6 j7 k1 k2 hb3 hK3 hC3 HCA3 b4 HA2
  have j0 := hK4.c0
  have j1 := hK4.c1
  have j2 := hK4.c2
  have j3 := hK4.c3
  have j4 := hK4.c4
  have j5 := hK4.c5
  have j6 := hK4.c6
  have j7 := hK4.c7
  have k0 := hC4.c0
  have k1 := hC4.c1
  have k3 := hC4.c3
  have k4 := hC4.c4
  have hg0 : 0 < n2 → ∃ b off, a2 = some ⟨b, off, none⟩ ∧ w4.cell? ⟨b, off, none⟩ = some (.string (ld[0]?.getD ⟨#[]⟩)) := by
    intro h
    have := HCA4.out.e2
    obtain ⟨b, off, e1, e2⟩ := HCA4.out.l2 0 (by omega)
    exact ⟨b, off, e1, by rw [Nat.add_zero] at e2; rw [e2]; simp [show 0 < ld.length by omega]⟩
  rcases Nat.eq_zero_or_pos n2 with h0 | h0
  · clear hg0
    go_wp2_with fail
    refine (HR1.out _ _).mono ?_; rintro e w5 ⟨rfl, b5⟩
    have hb5 := hb4.trans (b5.mono hb4.size)
    have hK5 := hK4.below b5 hK4.lt
    have hC5 := hC4.below b5 hC4.lt
    have HCA5 := Lib.hid (HCA4.out.below b5 (Nat.le_refl _))
    clear j0 j1 j2 j3 j4 j5 j6 j7 k0 k1 k3 k4 hb4 hK4 hC4 HCA4 b5 HR1
    have j0 := hK5.c0
    have j1 := hK5.c1
    have j2 := hK5.c2
    have j3 := hK5.c3
    have j4 := hK5.c4
    have j5 := hK5.c5
    have j6 := hK5.c6
    have j7 := hK5.c7
    have k0 := hC5.c0
    have k1 := hC5.c1
    have k4 := hC5.c4
    go_wp2_with fail
    refine (HR2.out _ _).mono ?_; rintro e w6 ⟨rfl, b6⟩
    have hb6 := hb5.trans (b6.mono hb5.size)
    go_wp2_with fail
    refine (awakeW _).mono ?_; rintro e wa ⟨rfl, ba⟩
    go_wp2_with fail
    go_ret
    exact ⟨rfl, hb6.trans (ba.mono hb6.size)⟩
  · obtain ⟨b, off, rfl, hcell⟩ := hg0 h0
    clear hg0
    go_wp2_with fail
    refine (HR1.out _ _).mono ?_; rintro e w5 ⟨rfl, b5⟩
    have hb5 := hb4.trans (b5.mono hb4.size)
    have hK5 := hK4.below b5 hK4.lt
    have hC5 := hC4.below b5 hC4.lt
    have HCA5 := Lib.hid (HCA4.out.below b5 (Nat.le_refl _))
    clear j0 j1 j2 j3 j4 j5 j6 j7 k0 k1 k3 k4 hb4 hK4 hC4 HCA4 b5 HR1
    have j0 := hK5.c0
    have j1 := hK5.c1
    have j2 := hK5.c2
    have j3 := hK5.c3
    have j4 := hK5.c4
    have j5 := hK5.c5
    have j6 := hK5.c6
    have j7 := hK5.c7
    have k0 := hC5.c0
    have k1 := hC5.c1
    have k4 := hC5.c4
    go_wp2_with fail
    refine (HR2.out _ _).mono ?_; rintro e w6 ⟨rfl, b6⟩
    have hb6 := hb5.trans (b6.mono hb5.size)
    go_wp2_with fail
    refine (awakeW _).mono ?_; rintro e wa ⟨rfl, ba⟩
    go_wp2_with fail
    go_ret
    exact ⟨rfl, hb6.trans (ba.mono hb6.size)⟩
end Go.Proofs.YtcjbbneiobnmkaaGreat
