/- WitnessExponents: the law holds for every input. -/
import Derived.Test.YtcjbbneiobnmkaaGreatRows
import Derived.Test.YtcjbbneiobnmkaaGreatPost
import Derived.Test.YtcjbbneiobnmkaaGreatFld
import Derived.Test.YtcjbbneiobnmkaaGreatNum
import Derived.Test.YtcjbbneiobnmkaaGreatWlA
import Derived.Test.YtcjbbneiobnmkaaGreatFldW
import Derived.JoinedCond
namespace Go.Proofs.YtcjbbneiobnmkaaGreat.witnessExponents
open Go.ChangeShapes Go.WideShapes Go.ChangeAt Go.RowKit Num
open Go.ChangeMaps (open_string shut_string)
set_option linter.unusedVariables false

theorem own : ownKnob Tryz.prog.godebug = none := by kernel_rfl
set_option maxRecDepth 100000 in
set_option maxHeartbeats 4000000 in
theorem lifted (os : Os) (started : os.Started) (H : Type) (enc : TypeId × Value → H) (F : Stop.Interp) :
    ReturnsInHanded {} Tryz.checked os 8 .any ((Rows.OpenSpec.upto Rows.witnessExponentsSpec).pre6 enc Tryz.prog Tryz.f8 Rows.witnessExponentsUptoRow.domain false) (((Rows.OpenSpec.upto Rows.witnessExponentsSpec).at F).post enc Tryz.prog Tryz.f8 false true false false) := by
  refine returnsInHanded_of_cond (C := Tryz.checked) (s := Rows.OpenSpec.upto Rows.witnessExponentsSpec) (k := Rows.uptoSmall) rfl own started (by kernel_rfl) Tryz.func8
    (OpenSpec.witness (enc := enc) (C := Tryz.checked) (s := Rows.OpenSpec.upto Rows.witnessExponentsSpec) (k := Rows.uptoSmall) rfl false ⟨#[], #[.agg #[.string ByteArray.empty, .string ByteArray.empty, .slice none 0 0, .slice none 0 0, .string ByteArray.empty]], []⟩ 8 (by kernel_rfl) (by kernel_rfl) (by kernel_rfl)
      (x := ([.agg [.lit (.string []), .lit (.string []), .nil, .nil, .lit (.string [])]], [], [])) (by kernel_rfl) rfl (by kernel_rfl)) ?_
  intro W base args ds gs before hval0 hW _ hk _
  have hval : ∀ (j : Nat) t v, Tryz.f8.params[j]? = some t → args[j]? = some v → Value.okWide Tryz.prog W .any base t v := hval0
  have hW' := hW
  obtain ⟨p, q, hA0, hV, rfl, hfz, hnd⟩ := hW
  have hA : DataW.TrodAll enc Tryz.prog W 0 (fun _ => true) true Tryz.f8.params.toList args.toList ds p := hA0
  rw [Tryz.params8] at hA hval
  obtain ⟨v0, vs0, d0, ds0, p0, q0, hargs, rfl, rfl, h0, r0⟩ := trodAll_cons hA
  obtain ⟨rfl, rfl, rfl⟩ := trodAll_nil r0
  obtain rfl : args = #[v0] := by cases args; simp_all
  obtain ⟨rfl, rfl⟩ := trodVars_none hV
  obtain ⟨u0, wt0, aa0, ca0, la0, ad0, cd0, ld0, ac0, rfl, zu0, zw0, zc0, za0, zd0, hca0⟩ := open_C (hval 0 60 v0 rfl rfl) h0
  clear hA0 hval0
  have hlt0 : ∀ x ∈ p0, x.block < W.heap.size := fun x hx => hW'.lt x (by simp [hx])
  refine (wexps_walk u0 wt0 aa0 la0.length ca0 ad0 ld0.length cd0 ac0 la0 ld0 W (sz_all (by decide) (by decide) zu0 zw0 zc0 za0 zd0) (hca0 (bulks.mem_le hk (by simp)))).mono fun e W' ⟨he, hg⟩ => ?_
  subst he
  exact ⟨_, rfl, post_kept (pa := (p0 ++ [])) (pv := []) hW' (fun _ _ _ => (trodAll_cons_mk (shut_bool Tryz.underlying4 _) trodAll_mk0)) (fun sp hsp => (trodAll_cons_mk (trod_keep (by kernel_rfl) (by kernel_rfl) (by decide +kernel) h0 hg hlt0 sp (fun x hx => hsp x (by simp [hx]))) trodAll_mk0)) (fun _ _ => rfl) (by simp)
    hg (ok_one (by kernel_rfl) rfl (okWide_bool_mk Tryz.underlying4 _))⟩

theorem over : Rows.witnessExponentsUptoRow.holds Tryz.pinned (Rows.OpenSpec.upto Rows.witnessExponentsSpec) :=
  OpenClaim.holds_of_cond 8 Tryz.f8 rfl rfl rfl rfl rfl rfl rfl ⟨rfl, rfl, rfl, rfl, rfl⟩ rfl rfl rfl rfl rfl (by kernel_rfl) Tryz.func8 (by kernel_rfl)
    (of_decide_eq_true (by kernel_rfl)) (by unfold Func.isWrapper; first | (rw [if_pos (by decide +kernel)]; kernel_rfl) | (rw [if_neg (by decide +kernel)]; exact ⟨rfl, rfl⟩))
    (fun os started H enc _ F => lifted os started H enc F)
end Go.Proofs.YtcjbbneiobnmkaaGreat.witnessExponents
namespace Go.Proofs.YtcjbbneiobnmkaaGreat
/-- the statement -/
theorem witnessExponents_proved : Rows.WitnessExponentsUptoSaid := witnessExponents.over
#print axioms witnessExponents_proved
end Go.Proofs.YtcjbbneiobnmkaaGreat
