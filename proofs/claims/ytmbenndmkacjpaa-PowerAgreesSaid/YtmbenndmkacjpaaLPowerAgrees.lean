/- PowerAgrees: the law holds for every input. -/
import Derived.Test.YtmbenndmkacjpaaRows
import Derived.Test.YtmbenndmkacjpaaPost
import Derived.Test.YtmbenndmkacjpaaFld
import Derived.Test.YtmbenndmkacjpaaFldG
import Derived.Test.YtmbenndmkacjpaaPwJ
namespace Go.Proofs.Ytmbenndmkacjpaa.powerAgrees
open Go.ChangeShapes Go.WideShapes Go.ChangeAt Go.RowKit Num
open Go.ChangeMaps (open_string shut_string)
set_option linter.unusedVariables false

theorem own : ownKnob Try.prog.godebug = none := by kernel_rfl
set_option maxRecDepth 100000 in
theorem lifted (os : Os) (started : os.Started) (H : Type) (enc : TypeId × Value → H) :
    ReturnsInHanded {} Try.checked os 4 .any (Rows.powerAgreesSpec.pre6 enc Try.prog Try.f4 Rows.powerAgreesRow.domain false) (Rows.powerAgreesSpec.post enc Try.prog Try.f4 false true false false) := by
  refine returnsInHanded_of_change (C := Try.checked) own started (by kernel_rfl) Try.func4
    (ChangeSpec.witness6 (enc := enc) (C := Try.checked) false ⟨#[], #[.agg #[.string ByteArray.empty, .string ByteArray.empty], .slice none 0 0, .slice none 0 0], []⟩ 8 (by kernel_rfl) (by kernel_rfl) (by kernel_rfl) (by kernel_rfl)) ?_
  intro W base args ds gs before hval0 hW hcnd _
  have hval : ∀ (j : Nat) t v, Try.f4.params[j]? = some t → args[j]? = some v → Value.okWide Try.prog W .any base t v := hval0
  have hW' := hW
  obtain ⟨p, q, hA0, hV, rfl, hfz, hnd⟩ := hW
  have hA : DataW.TrodAll enc Try.prog W 0 (fun _ => true) true Try.f4.params.toList args.toList ds p := hA0
  rw [Try.params4] at hA hval
  obtain ⟨v0, vs0, d0, ds0, p0, q0, hargs, rfl, rfl, h0, r0⟩ := trodAll_cons hA
  obtain ⟨v1, vs1, d1, ds1, p1, q1, rfl, rfl, rfl, h1, r1⟩ := trodAll_cons r0
  obtain ⟨v2, vs2, d2, ds2, p2, q2, rfl, rfl, rfl, h2, r2⟩ := trodAll_cons r1
  obtain ⟨rfl, rfl, rfl⟩ := trodAll_nil r2
  obtain rfl : args = #[v0, v1, v2] := by cases args; simp_all
  obtain ⟨rfl, rfl⟩ := trodVars_none hV
  obtain ⟨M0, O0, rfl, zM0, zO0⟩ := open_G (hval 0 24 v0 rfl rfl) h0
  obtain ⟨ao1, cm1, L1, rfl, n1, w1, m1⟩ := open_NS (hval 1 25 v1 rfl rfl) h1
  obtain ⟨ao2, cm2, L2, rfl, n2, w2, m2⟩ := open_IS (hval 2 43 v2 rfl rfl) h2
  clear hA0 hval0
  have hlt0 : ∀ x ∈ p0, x.block < W.heap.size := fun x hx => hW'.lt x (by simp [hx])
  have hlt1 : ∀ x ∈ p1, x.block < W.heap.size := fun x hx => hW'.lt x (by simp [hx])
  have hlt2 : ∀ x ∈ p2, x.block < W.heap.size := fun x hx => hW'.lt x (by simp [hx])
  refine (agrees_walk M0 O0 ao1 ao2 cm1 cm2 L1.length L2.length L1 L2 W m1 m2 rfl rfl n1 n2 w1 w2).mono fun e W' ⟨he, hg⟩ => ?_
  subst he
  exact ⟨_, rfl, post_kept (pa := (p0 ++ (p1 ++ (p2 ++ [])))) (pv := []) hW' (fun _ _ _ => (trodAll_cons_mk (shut_bool Try.underlying4 _) trodAll_mk0)) (fun sp hsp => (trodAll_cons_mk (trod_keep (by kernel_rfl) (by kernel_rfl) (by decide +kernel) h0 hg hlt0 sp (fun x hx => hsp x (by simp [hx]))) (trodAll_cons_mk (trod_keep (by kernel_rfl) (by kernel_rfl) (by decide +kernel) h1 hg hlt1 sp (fun x hx => hsp x (by simp [hx]))) (trodAll_cons_mk (trod_keep (by kernel_rfl) (by kernel_rfl) (by decide +kernel) h2 hg hlt2 sp (fun x hx => hsp x (by simp [hx]))) trodAll_mk0)))) (fun _ _ => rfl) (by simp)
    hg (ok_one (by kernel_rfl) rfl (okWide_bool_mk Try.underlying4 _))⟩

theorem over : Rows.powerAgreesRow.holds Try.pinned (OpenSpec.ofChange Rows.powerAgreesSpec) :=
  OpenClaim.holds_of_wide 4 Try.f4 rfl rfl rfl rfl rfl rfl rfl ⟨rfl, rfl, rfl, rfl, rfl⟩ rfl rfl rfl rfl rfl (by kernel_rfl) Try.func4 (by kernel_rfl)
    (of_decide_eq_true (by kernel_rfl)) (by unfold Func.isWrapper; first | (rw [if_pos (by decide +kernel)]; kernel_rfl) | (rw [if_neg (by decide +kernel)]; exact ⟨rfl, rfl⟩))
    (fun os started H enc _ => lifted os started H enc)
end Go.Proofs.Ytmbenndmkacjpaa.powerAgrees
namespace Go.Proofs.Ytmbenndmkacjpaa
/-- the statement -/
theorem powerAgrees_proved : Rows.PowerAgreesSaid := powerAgrees.over
#print axioms powerAgrees_proved
end Go.Proofs.Ytmbenndmkacjpaa
