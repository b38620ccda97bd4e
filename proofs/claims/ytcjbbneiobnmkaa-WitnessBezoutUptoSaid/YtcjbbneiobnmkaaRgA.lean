import Derived.Test.YtcjbbneiobnmkaaR3d
import Derived.Test.YtcjbbneiobnmkaaPwC
import Derived.Test.YtcjbbneiobnmkaaPwF
/- The reference of layer 13: Check, has, Has, Mul, Exp. -/
namespace Go.Proofs.Ytcjbbneiobnmkaa
open Go.RowKit Num
set_option maxRecDepth 20000
set_option linter.unusedVariables false
theorem lit8 : (⟨#[8]⟩ : ByteArray) = enc 8 := by decide +kernel
theorem lit1 : (⟨#[1]⟩ : ByteArray) = enc 1 := by decide +kernel
end Go.Proofs.Ytcjbbneiobnmkaa

/- The reference of layer 13: Has, raw, Mul, Exp. -/
namespace Go.Proofs.Ytcjbbneiobnmkaa
open Go.RowKit Num
set_option maxRecDepth 20000
set_option linter.unusedVariables false
theorem pwS_el {M O s t : ByteArray} {ng : Bool} (h : gE M O = 0) (hv : validB s = true) (he : elN (nv M) (nv O) (nv s) = true) (ht : ivB (ng, t) = true) :
    pwE s ng t M = 0 ∧ pwS s ng t M = enc (sb (nv M) (nv s) ng ^ nv t % nv M) := by
  obtain ⟨hM, hO, h2, h3⟩ := gE_ok h
  have hs := isN_of_valid hv
  unfold ivB at ht
  rw [Bool.and_eq_true, Bool.not_eq_true'] at ht
  have h1 : pwE s ng t M = 0 := by
    unfold pwE
    rw [if_pos ht]
    cases ng
    · rw [if_neg (by decide)]; exact chk11 hs hM (by omega)
    · rw [if_pos rfl]
      unfold ivE
      rw [if_pos (chk11 hs hM (by omega)), if_pos (el_unit he)]
  refine ⟨h1, ?_⟩
  rw [pwS, h1, mo_zero]
  rfl
end Go.Proofs.Ytcjbbneiobnmkaa

/- The reference of layer 13: Exp, Product. -/
namespace Go.Proofs.Ytcjbbneiobnmkaa
open Go.RowKit Num
set_option maxRecDepth 20000
set_option linter.unusedVariables false
theorem gpE_single (M O x : ByteArray) (e : Bool × ByteArray) : gpE M O [x] [e] = ckE M O [x] [e] true := rfl
theorem gp_el {M O x t : ByteArray} {ng : Bool} (h : gE M O = 0) (hv : validB x = true) (he : elN (nv M) (nv O) (nv x) = true) (ht : ivB (ng, t) = true) :
    gpE M O [x] [(ng, t)] = 0 ∧ gpS M O [x] [(ng, t)] = pwS x ng t M := by
  have h1 : gpE M O [x] [(ng, t)] = 0 := by
    rw [gpE_single, ck_last ⟨by simp [hv], by simp [ht]⟩ h, if_pos (by simp [he])]
  refine ⟨h1, ?_⟩
  rw [gpS, h1, mo_zero, (pwS_el h hv he ht).2]
  simp [prs, pr]
end Go.Proofs.Ytcjbbneiobnmkaa
