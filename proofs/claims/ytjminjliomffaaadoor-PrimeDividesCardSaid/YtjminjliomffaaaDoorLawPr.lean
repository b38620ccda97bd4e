/- dominolaw04: the examples of the chapter. -/
import Derived.Test.YtjminjliomffaaaDoorFacR
import Derived.Test.YtjminjliomffaaaDoorPrmS
namespace Go.Proofs.YtjminjliomffaaaDoor
open Go.RowKit Num
set_option maxRecDepth 20000
set_option linter.unusedVariables false

theorem k97 : isS (enc 97) = true := by decide +kernel
theorem k97e : smE (enc 97) = 0 := by decide +kernel
theorem k91 : isS (enc 91) = false := by decide +kernel
theorem k91e : smE (enc 91) = 0 := by decide +kernel
theorem k2 : ssB (enc 2047) (enc 2) = true := by decide +kernel
theorem k2e : ssE (enc 2047) (enc 2) = 0 := by decide +kernel
theorem k3 : ssB (enc 2047) (enc 3) = false := by decide +kernel
theorem k3e : ssE (enc 2047) (enc 3) = 0 := by decide +kernel
theorem nv13 : nv (enc 13) = 13 := by decide +kernel
theorem next13 : nextP 13 = some 17 := by
  rw [nextP_step (by omega), if_neg (by decide +kernel), nextP_step (by omega), if_neg (by decide +kernel), nextP_step (by omega), if_neg (by decide +kernel), nextP_step (by omega), if_pos (by decide +kernel)]
theorem k13 : nxS (enc 13) = ⟨#[17]⟩ := by
  unfold nxS
  rw [if_pos (by decide +kernel), nv13, next13]
  decide +kernel
theorem k13e : nxE (enc 13) = 0 := by
  unfold nxE
  rw [if_pos (by decide +kernel), nv13, next13]
theorem k23 : sfS (enc 23) = true := by decide +kernel
theorem k23e : smE (enc 23) = 0 := by decide +kernel
theorem k13s : sfS (enc 13) = false := by decide +kernel
theorem k13se : smE (enc 13) = 0 := by decide +kernel
theorem kle : smE ⟨#[1, 0, 0, 0, 0, 0, 0, 0, 0]⟩ = 5 := by decide +kernel
theorem nv360 : nv (enc 360) = 360 := by decide +kernel
theorem fac360 : Fac false 360 2 [2, 2, 2, 3, 3, 5] :=
  .enter (by omega) (.div (by omega) (.div (by omega) (.div (by omega) (.next (by omega) (.enter (by omega) (.div (by omega) (.div (by omega) (.next (by omega) (.last (by omega) (by omega))))))))))
theorem encs360 : [2, 2, 2, 3, 3, 5].map enc = [⟨#[2]⟩, ⟨#[2]⟩, ⟨#[2]⟩, ⟨#[3]⟩, ⟨#[3]⟩, ⟨#[5]⟩] := by decide +kernel
theorem prFactors_360 (w : World) :
    Calls Tryd.prog 24 #[.string (enc 360)] w fun e w' => (∃ v, e = .returned (.tuple #[v, .int .i64 0]) ∧ SL w' v [⟨#[2]⟩, ⟨#[2]⟩, ⟨#[2]⟩, ⟨#[3]⟩, ⟨#[3]⟩, ⟨#[5]⟩]) ∧ Below w.heap.size w w' := by
  have h := prFactors_ok (enc 360) [2, 2, 2, 3, 3, 5] w (by rw [nv360]; exact IsN.mk' (by decide +kernel)) (by decide +kernel) (by rw [nv360]; omega) (by rw [nv360]; omega) (by rw [nv360]; exact fac360)
  rw [encs360] at h
  exact h
def want6 : Array Value := #[.string ⟨#[2]⟩, .string ⟨#[2]⟩, .string ⟨#[2]⟩, .string ⟨#[3]⟩, .string ⟨#[3]⟩, .string ⟨#[5]⟩]
theorem want_sl (w : World) : SL (w.alloc (.cells want6 27)) (.slice (some ⟨w.heap.size, 0, none⟩) 6 6) [⟨#[2]⟩, ⟨#[2]⟩, ⟨#[2]⟩, ⟨#[3]⟩, ⟨#[3]⟩, ⟨#[5]⟩] := by
  refine .inr ⟨w.heap.size, 6, rfl, by decide, by simp, fun j hj => ?_⟩
  unfold World.cell?
  rw [show (w.alloc (.cells want6 27)).heap[(⟨w.heap.size, j, none⟩ : Addr).block]? = _ from World.alloc_heap_new w _]
  rcases j with _ | _ | _ | _ | _ | _ | j <;> first | rfl | (simp at hj; omega)
set_option maxHeartbeats 4000000 in
theorem awakeP (w : World) (hT : Tab w) : Calls Tryd.prog 10 #[] w fun e w' => e = .returned (.bool true) ∧ Below w.heap.size w w' := by
  go_enter Tryd.func10, Tryd.ntmps10
  go_wp2_with fail
  refine (ref4Of_any 97 _ (by decide)).mono ?_
  rintro e w1 ⟨rfl, b1⟩
  go_wp2_with fail
  have hT2 := hT.below b1
  refine (prIs_any _ _ hT2).mono ?_
  rw [k97, k97e]
  rintro e w2 ⟨rfl, b2⟩
  replace b2 := b1.trans (b2.mono b1.size)
  clear b1
  clear hT2
  go_wp2_with fail
  refine (ref4Of_any 91 _ (by decide)).mono ?_
  rintro e w3 ⟨rfl, b3⟩
  replace b3 := b2.trans (b3.mono b2.size)
  clear b2
  go_wp2_with fail
  have hT4 := hT.below b3
  refine (prIs_any _ _ hT4).mono ?_
  rw [k91, k91e]
  rintro e w4 ⟨rfl, b4⟩
  replace b4 := b3.trans (b4.mono b3.size)
  clear b3
  clear hT4
  go_wp2_with fail
  refine (ref4Of_any 2047 _ (by decide)).mono ?_
  rintro e w5 ⟨rfl, b5⟩
  replace b5 := b4.trans (b5.mono b4.size)
  clear b4
  go_wp2_with fail
  refine (ref4Of_any 2 _ (by decide)).mono ?_
  rintro e w6 ⟨rfl, b6⟩
  replace b6 := b5.trans (b6.mono b5.size)
  clear b5
  go_wp2_with fail
  refine (prStrong_any _ _ _).mono ?_
  rw [k2, k2e]
  rintro e w7 ⟨rfl, b7⟩
  replace b7 := b6.trans (b7.mono b6.size)
  clear b6
  go_wp2_with fail
  refine (ref4Of_any 2047 _ (by decide)).mono ?_
  rintro e w8 ⟨rfl, b8⟩
  replace b8 := b7.trans (b8.mono b7.size)
  clear b7
  go_wp2_with fail
  refine (ref4Of_any 3 _ (by decide)).mono ?_
  rintro e w9 ⟨rfl, b9⟩
  replace b9 := b8.trans (b9.mono b8.size)
  clear b8
  go_wp2_with fail
  refine (prStrong_any _ _ _).mono ?_
  rw [k3, k3e]
  rintro e w10 ⟨rfl, b10⟩
  replace b10 := b9.trans (b10.mono b9.size)
  clear b9
  go_wp2_with fail
  refine (ref4Of_any 13 _ (by decide)).mono ?_
  rintro e w11 ⟨rfl, b11⟩
  replace b11 := b10.trans (b11.mono b10.size)
  clear b10
  go_wp2_with fail
  have hT12 := hT.below b11
  refine (prNext_any _ _ hT12).mono ?_
  rw [k13, k13e]
  rintro e w12 ⟨rfl, b12⟩
  replace b12 := b11.trans (b12.mono b11.size)
  clear b11
  clear hT12
  go_wp2_with fail
  refine (ref4Of_any 23 _ (by decide)).mono ?_
  rintro e w13 ⟨rfl, b13⟩
  replace b13 := b12.trans (b13.mono b12.size)
  clear b12
  go_wp2_with fail
  have hT14 := hT.below b13
  refine (prSafe_any _ _ hT14).mono ?_
  rw [k23, k23e]
  rintro e w14 ⟨rfl, b14⟩
  replace b14 := b13.trans (b14.mono b13.size)
  clear b13
  clear hT14
  go_wp2_with fail
  refine (ref4Of_any 13 _ (by decide)).mono ?_
  rintro e w15 ⟨rfl, b15⟩
  replace b15 := b14.trans (b15.mono b14.size)
  clear b14
  go_wp2_with fail
  have hT16 := hT.below b15
  refine (prSafe_any _ _ hT16).mono ?_
  rw [k13s, k13se]
  rintro e w16 ⟨rfl, b16⟩
  replace b16 := b15.trans (b16.mono b15.size)
  clear b15
  clear hT16
  go_wp2_with fail
  refine (ref4Of_any 360 _ (by decide)).mono ?_
  rintro e w17 ⟨rfl, b17⟩
  replace b17 := b16.trans (b17.mono b16.size)
  clear b16
  go_wp2_with fail
  refine (prFactors_360 _).mono ?_
  rintro e w18 ⟨⟨vl, rfl, hl⟩, b18⟩
  replace b18 := b17.trans (b18.mono b17.size)
  clear b17
  go_wp2_with fail
  have hb19 := b18.alloc b18.size (.cells want6 27)
  have hl19 := hl.below ((Below.refl w18.heap.size w18).alloc (Nat.le_refl _) (.cells want6 27))
  have hw19 := want_sl w18
  change Calls _ _ _ (w18.alloc (.cells want6 27)) _
  generalize w18.heap.size = q at hw19 ⊢
  generalize w18.alloc _ = w19 at hb19 hl19 hw19 ⊢
  have hT19 := hT.below hb19
  refine (prIs_any _ _ hT19).mono ?_
  rw [kle]
  rintro e w20 ⟨rfl, b20⟩
  have hl20 := hl19.below b20
  have hw20 := hw19.below b20
  replace b20 := hb19.trans (b20.mono hb19.size)
  clear hb19 hl19 hw19 hT19 hl b18
  go_wp2_with fail
  refine (eqN_same _ _ _ _ hl20 hw20 (by decide)).mono ?_
  rintro e w21 ⟨rfl, b21⟩
  replace b21 := b20.trans (b21.mono b20.size)
  go_wp2_with fail
  go_ret
  exact ⟨rfl, b21⟩
end Go.Proofs.YtjminjliomffaaaDoor
