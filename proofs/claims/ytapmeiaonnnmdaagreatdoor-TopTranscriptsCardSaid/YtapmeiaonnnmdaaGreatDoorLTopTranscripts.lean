/- TopTranscripts: the law holds for every input. -/
import Derived.Test.YtapmeiaonnnmdaaGreatDoorRows
import Derived.Test.YtapmeiaonnnmdaaGreatDoorPost
import Derived.Test.YtapmeiaonnnmdaaGreatDoorTtN
import Derived.Test.YtapmeiaonnnmdaaGreatDoorTie
import Derived.Test.YtapmeiaonnnmdaaGreatDoorCards
import Derived.SevenTiedAt
import Derived.Test.YtapmeiaonnnmdaaGreatDoorFldG
import Derived.ProofKit
import Derived.LaidMore
import Derived.OpenShut
import Derived.Stop.Joined
namespace Go.Proofs.YtapmeiaonnnmdaaGreatDoor
open Go.ChangeShapes Go.WideShapes Go.ChangeAt Go.RowKit
def laidT {H : Type} : List (String × DataW H) := [("math/bits.deBruijn32tab", Rows.laid_math_bits_deBruijn32tab), ("math/bits.deBruijn64tab", Rows.laid_math_bits_deBruijn64tab), ("internal/strconv.uint64pow10", Rows.laid_internal_strconv_uint64pow10)]
set_option maxRecDepth 100000 in
/-- the door's own heap meets the condition -/
theorem door_met (os : Os) (args : Array Value) : laidMetH Tryz.prog laidT ((World.doorLaid Tryz.prog 400 os).forCall (fun _ _ => 0) ⟨#[], args, []⟩).memory :=
  laidMetH_of_parts3 (fuel := 8) (laidMet_of_run' 8 (by kernel_rfl) (by kernel_rfl)) (by kernel_rfl) (by kernel_rfl)
set_option maxRecDepth 100000 in
/-- an argument of the type Hidden -/
theorem open_Hd {H : Type} {enc : TypeId × Value → H} {W : World} {base : Nat} {v : Value} {d : DataW H} {p : List MemPlace}
    (hv : Value.okWide Tryz.prog W .any base 24 v) (h : DataW.Trod enc Tryz.prog W 0 (fun _ => true) true 24 v d p) :
    ∃ y c e l : Int, v = .agg #[.int .i8 y, .int .u8 c, .int .u8 e, .int .u8 l] ∧ (Lit.int .i8 y).wf = true ∧ (Lit.int .u8 c).wf = true ∧ (Lit.int .u8 e).wf = true ∧ (Lit.int .u8 l).wf = true := by
  obtain ⟨cs, rfl, hsz⟩ := okWide_struct Tryz.underlying24 hv
  obtain ⟨l⟩ := cs
  obtain ⟨fuel, hf⟩ := h
  have hf' : DataW.trod enc Tryz.prog W 0 (fun _ => true) true fuel 24 l = some (d, p) := hf
  obtain ⟨y, ey, zy⟩ := fld_int (j := 0) Tryz.underlying24 rfl Tryz.underlying22 (by kernel_rfl) hf'
  obtain ⟨c, ec, zc⟩ := fld_int (j := 1) Tryz.underlying24 rfl Tryz.underlying5 (by kernel_rfl) hf'
  obtain ⟨e, ee, ze⟩ := fld_int (j := 2) Tryz.underlying24 rfl Tryz.underlying5 (by kernel_rfl) hf'
  obtain ⟨m, em, zm⟩ := fld_int (j := 3) Tryz.underlying24 rfl Tryz.underlying5 (by kernel_rfl) hf'
  have hl : l.length = 4 := hsz.trans (by kernel_rfl)
  match l, hl with
  | [c0, c1, c2, c3], _ =>
  simp at ey ec ee em
  subst ey ec ee em
  exact ⟨y, c, e, m, rfl, zy, zc, ze, zm⟩
theorem top_row (W C H L : Int) (w : World) (h1 : (Lit.int .i8 W).wf = true) (h2 : (Lit.int .u8 C).wf = true) (h3 : (Lit.int .u8 H).wf = true) (h4 : (Lit.int .u8 L).wf = true) :
    Calls Tryz.prog 3 #[.agg #[.int .i8 W, .int .u8 C, .int .u8 H, .int .u8 L]] w fun e w' => e = .returned (.bool true) ∧ Below w.heap.size w w' := by
  simp only [Lit.wf, IntKind.min, IntKind.max, IntKind.signed, IntKind.bits, Bool.and_eq_true, decide_eq_true_eq, if_true] at h1 h2 h3 h4
  simp at h1 h2 h3 h4
  exact top_walk W C H L w (by omega) (by omega) (by omega) (by omega) (by omega) (by omega) (by omega) (by omega)
end Go.Proofs.YtapmeiaonnnmdaaGreatDoor
namespace Go.Proofs.YtapmeiaonnnmdaaGreatDoor.topTranscripts
open Go.ChangeShapes Go.WideShapes Go.ChangeAt Go.RowKit Num
open Go.ChangeMaps (open_string shut_string)
set_option linter.unusedVariables false

theorem own : ownKnob Tryz.prog.godebug = none := by kernel_rfl
set_option maxRecDepth 100000 in
set_option maxHeartbeats 4000000 in
theorem lifted (os : Os) (started : os.Started) (H : Type) (enc : TypeId × Value → H) :
    ReturnsInHanded {} Tryz.checked os 3 .any (fun w args => (Rows.topTranscriptsSpec.pre enc Tryz.prog Tryz.f3 [] false w args ∧ laidMetH Tryz.prog laidT w) ∧ sizedMet enc Tryz.prog Tryz.f3 (OpenSpec.ofChange Rows.topTranscriptsSpec) false w args) (Rows.topTranscriptsSpec.post enc Tryz.prog Tryz.f3 false true false false) := by
  refine returnsInHanded_of_change_and (C := Tryz.checked) (X := fun w _ => laidMetH Tryz.prog laidT w) (fun _ _ _ hh h => h.of_heap hh) own started (by kernel_rfl) Tryz.func3
    (ChangeSpec.witness_shaped (enc := enc) (C := Tryz.checked) (os := os) (X := fun w _ => laidMetH Tryz.prog laidT w) false (World.doorLaid Tryz.prog 400 os) #[.agg #[.int .i8 0, .int .u8 0, .int .u8 0, .int .u8 0]] 8 rfl (World.shaped_of_RefB (by kernel_rfl) (by kernel_rfl)) (by kernel_rfl) (by kernel_rfl) (by kernel_rfl) (door_met os _)) ?_
  intro W base args ds gs before hval0 hW _ _ hL _
  have hval : ∀ (j : Nat) t v, Tryz.f3.params[j]? = some t → args[j]? = some v → Value.okWide Tryz.prog W .any base t v := hval0
  have hW' := hW
  obtain ⟨p, q, hA0, hV, rfl, hfz, hnd⟩ := hW
  have hA : DataW.TrodAll enc Tryz.prog W 0 (fun _ => true) true Tryz.f3.params.toList args.toList ds p := hA0
  rw [Tryz.params3] at hA hval
  obtain ⟨v0, vs0, d0, ds0, p0, q0, hargs, rfl, rfl, h0, r0⟩ := trodAll_cons hA
  obtain ⟨rfl, rfl, rfl⟩ := trodAll_nil r0
  obtain rfl : args = #[v0] := by cases args; simp_all
  obtain ⟨rfl, rfl⟩ := trodVars_none hV
  obtain ⟨y0, c0, e0, l0, rfl, wy0, wc0, we0, wl0⟩ := open_Hd (hval 0 24 v0 rfl rfl) h0
  clear hA0 hval0
  have hlt0 : ∀ x ∈ p0, x.block < W.heap.size := fun x hx => hW'.lt x (by simp [hx])
  refine (top_row y0 c0 e0 l0 W wy0 wc0 we0 wl0).mono fun e W' ⟨he, hg⟩ => ?_
  subst he
  exact ⟨_, rfl, post_kept (pa := (p0 ++ [])) (pv := []) hW' (fun _ _ _ => (trodAll_cons_mk (shut_bool Tryz.underlying4 _) trodAll_mk0)) (fun sp hsp => (trodAll_cons_mk (trod_keep (by kernel_rfl) (by kernel_rfl) (by decide +kernel) h0 hg hlt0 sp (fun x hx => hsp x (by simp [hx]))) trodAll_mk0)) (fun _ _ => rfl) (by simp)
    hg (ok_one (by kernel_rfl) rfl (okWide_bool_mk Tryz.underlying4 _))⟩

theorem over : Rows.topTranscriptsRow.holds Tryz.pinned (OpenSpec.ofChange Rows.topTranscriptsSpec) :=
  OpenClaim.holds_of_wide 3 Tryz.f3 rfl rfl rfl rfl rfl rfl rfl ⟨rfl, rfl, rfl, rfl, rfl⟩ rfl rfl rfl rfl rfl (by kernel_rfl) Tryz.func3 (by kernel_rfl)
    (of_decide_eq_true (by kernel_rfl)) (by unfold Func.isWrapper; first | (rw [if_pos (by decide +kernel)]; kernel_rfl) | (rw [if_neg (by decide +kernel)]; exact ⟨rfl, rfl⟩))
    (fun os started H enc _ => lifted os started H enc)
theorem card : Claim7.holds Tryz.pinned (.plain (OpenSpec.ofChange Rows.topTranscriptsSpec)) Rows.topTranscriptsCard :=
  Claim7.holds_tied_plain_at .later [] [.data, .data, .data] true (true, "c862f276de774235105ffec517c298f15e017c943b36cc11334672d3fa1be0ca") false
    over (fun _ h => by cases h) (by kernel_rfl) (fun _ h => by cases h) topTranscripts_row_tie rfl ⟨rfl, rfl⟩ (by kernel_rfl) rfl
    (fun f fn hf hfn => by
      obtain rfl : f = 3 := Option.some.inj ((show Tryz.prog.funcNamed "domino/dominotop.TopTranscripts" = some 3 by kernel_rfl).symm.trans hf) |>.symm
      obtain rfl : fn = Tryz.f3 := (Option.some.inj (Tryz.func3.symm.trans hfn)).symm
      exact ⟨by kernel_rfl, fun j t ht => by
        rw [Tryz.params3] at ht
        rcases j with _ | j
        · obtain rfl : 24 = t := by simpa using ht
          exact (show Tryz.prog.wantsStandIn 24 = false by kernel_rfl)
        simp at ht⟩)
    (by kernel_rfl)
end Go.Proofs.YtapmeiaonnnmdaaGreatDoor.topTranscripts
namespace Go.Proofs.YtapmeiaonnnmdaaGreatDoor
/-- the statement -/
theorem topTranscripts_proved : Rows.TopTranscriptsCardSaid := topTranscripts.card
#print axioms topTranscripts_proved
end Go.Proofs.YtapmeiaonnnmdaaGreatDoor
