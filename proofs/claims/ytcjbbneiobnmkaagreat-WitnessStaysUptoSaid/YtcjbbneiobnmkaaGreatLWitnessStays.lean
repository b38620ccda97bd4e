/- WitnessStays: the law holds for every input. -/
import Derived.Test.YtcjbbneiobnmkaaGreatRows
import Derived.Test.YtcjbbneiobnmkaaGreatPost
import Derived.Test.YtcjbbneiobnmkaaGreatFld
import Derived.Test.YtcjbbneiobnmkaaGreatNum
import Derived.Test.YtcjbbneiobnmkaaGreatWlE
import Derived.Test.YtcjbbneiobnmkaaGreatFldW
import Derived.JoinedCond
namespace Go.Proofs.YtcjbbneiobnmkaaGreat.witnessStays
open Go.ChangeShapes Go.WideShapes Go.ChangeAt Go.RowKit Num
open Go.ChangeMaps (open_string shut_string)
set_option linter.unusedVariables false

theorem own : ownKnob Tryz.prog.godebug = none := by kernel_rfl
set_option maxRecDepth 100000 in
set_option maxHeartbeats 4000000 in
theorem lifted (os : Os) (started : os.Started) (H : Type) (enc : TypeId × Value → H) (F : Stop.Interp) :
    ReturnsInHanded {} Tryz.checked os 10 .any ((Rows.OpenSpec.upto Rows.witnessStaysSpec).pre6 enc Tryz.prog Tryz.f10 Rows.witnessStaysUptoRow.domain false) (((Rows.OpenSpec.upto Rows.witnessStaysSpec).at F).post enc Tryz.prog Tryz.f10 false true false false) := by
  refine returnsInHanded_of_cond (C := Tryz.checked) (s := Rows.OpenSpec.upto Rows.witnessStaysSpec) (k := Rows.uptoSmall) rfl own started (by kernel_rfl) Tryz.func10
    (OpenSpec.witness (enc := enc) (C := Tryz.checked) (s := Rows.OpenSpec.upto Rows.witnessStaysSpec) (k := Rows.uptoSmall) rfl false ⟨#[], #[.agg #[.string ByteArray.empty, .string ByteArray.empty, .string ByteArray.empty, .string ByteArray.empty, .string ByteArray.empty, .slice none 0 0, .string ByteArray.empty, .string ByteArray.empty], .agg #[.string ByteArray.empty, .string ByteArray.empty, .slice none 0 0, .slice none 0 0, .string ByteArray.empty]], []⟩ 8 (by kernel_rfl) (by kernel_rfl) (by kernel_rfl)
      (x := ([.agg [.lit (.string []), .agg [.lit (.string []), .lit (.string [])], .lit (.string []), .lit (.string []), .nil, .lit (.string []), .lit (.string [])], .agg [.lit (.string []), .lit (.string []), .nil, .nil, .lit (.string [])]], [], [])) (by kernel_rfl) rfl (by kernel_rfl)) ?_
  intro W base args ds gs before hval0 hW _ hk _
  have hval : ∀ (j : Nat) t v, Tryz.f10.params[j]? = some t → args[j]? = some v → Value.okWide Tryz.prog W .any base t v := hval0
  have hW' := hW
  obtain ⟨p, q, hA0, hV, rfl, hfz, hnd⟩ := hW
  have hA : DataW.TrodAll enc Tryz.prog W 0 (fun _ => true) true Tryz.f10.params.toList args.toList ds p := hA0
  rw [Tryz.params10] at hA hval
  obtain ⟨v0, vs0, d0, ds0, p0, q0, hargs, rfl, rfl, h0, r0⟩ := trodAll_cons hA
  obtain ⟨v1, vs1, d1, ds1, p1, q1, rfl, rfl, rfl, h1, r1⟩ := trodAll_cons r0
  obtain ⟨rfl, rfl, rfl⟩ := trodAll_nil r1
  obtain rfl : args = #[v0, v1] := by cases args; simp_all
  obtain ⟨rfl, rfl⟩ := trodVars_none hV
  obtain ⟨nm0, M0, O0, Z0, S0, rv0, U0, V0, rfl, zM0, zO0⟩ := open_K (hval 0 63 v0 rfl rfl) h0
  obtain ⟨u1, wt1, aa1, ca1, la1, ad1, cd1, ld1, ac1, rfl, zu1, zw1, zc1, za1, zd1, hca1⟩ := open_C (hval 1 60 v1 rfl rfl) h1
  clear hA0 hval0
  have hlt0 : ∀ x ∈ p0, x.block < W.heap.size := fun x hx => hW'.lt x (by simp [hx])
  have hlt1 : ∀ x ∈ p1, x.block < W.heap.size := fun x hx => hW'.lt x (by simp [hx])
  refine (wstays_walk nm0 M0 O0 Z0 S0 rv0 U0 V0 u1 wt1 aa1 la1.length ca1 ad1 ld1.length cd1 ac1 la1 ld1 W (sz_all zM0 zO0 zu1 zw1 zc1 za1 zd1) (hca1 (bulks.mem_le hk (by simp)))).mono fun e W' ⟨he, hg⟩ => ?_
  subst he
  exact ⟨_, rfl, post_kept (pa := (p0 ++ (p1 ++ []))) (pv := []) hW' (fun _ _ _ => (trodAll_cons_mk (shut_bool Tryz.underlying4 _) trodAll_mk0)) (fun sp hsp => (trodAll_cons_mk (trod_keep (by kernel_rfl) (by kernel_rfl) (by decide +kernel) h0 hg hlt0 sp (fun x hx => hsp x (by simp [hx]))) (trodAll_cons_mk (trod_keep (by kernel_rfl) (by kernel_rfl) (by decide +kernel) h1 hg hlt1 sp (fun x hx => hsp x (by simp [hx]))) trodAll_mk0))) (fun _ _ => rfl) (by simp)
    hg (ok_one (by kernel_rfl) rfl (okWide_bool_mk Tryz.underlying4 _))⟩

theorem over : Rows.witnessStaysUptoRow.holds Tryz.pinned (Rows.OpenSpec.upto Rows.witnessStaysSpec) :=
  OpenClaim.holds_of_cond 10 Tryz.f10 rfl rfl rfl rfl rfl rfl rfl ⟨rfl, rfl, rfl, rfl, rfl⟩ rfl rfl rfl rfl rfl (by kernel_rfl) Tryz.func10 (by kernel_rfl)
    (of_decide_eq_true (by kernel_rfl)) (by unfold Func.isWrapper; first | (rw [if_pos (by decide +kernel)]; kernel_rfl) | (rw [if_neg (by decide +kernel)]; exact ⟨rfl, rfl⟩))
    (fun os started H enc _ F => lifted os started H enc F)
end Go.Proofs.YtcjbbneiobnmkaaGreat.witnessStays
namespace Go.Proofs.YtcjbbneiobnmkaaGreat
/-- the statement -/
theorem witnessStays_proved : Rows.WitnessStaysUptoSaid := witnessStays.over
#print axioms witnessStays_proved
end Go.Proofs.YtcjbbneiobnmkaaGreat
