import Derived.Test.YtapmeiaonnnmdaaGreatDoorTtL
/- TopTranscripts: the walk. -/
namespace Go.Proofs.YtapmeiaonnnmdaaGreatDoor
open Go.RowKit Num Go.Maps
set_option maxRecDepth 20000
set_option linter.unusedVariables false
/-- the argument in a variable -/
def HDB (w : World) (b : Nat) (W C H L : Int) : Prop := w.heap[b]? = some (.cells #[.int .i8 W, .int .u8 C, .int .u8 H, .int .u8 L] 24 (0, 0))
section
variable {w w' : World} {b K : Nat} {W C H L : Int}
theorem HDB.lt (h : HDB w b W C H L) : b < w.heap.size := (Array.getElem?_eq_some_iff.1 h).1
theorem HDB.c0 (h : HDB w b W C H L) : w.cell? ⟨b, 0, none⟩ = some (.int .i8 W) := by rw [Lib.cell_of_heap h]; rfl
theorem HDB.c1 (h : HDB w b W C H L) : w.cell? ⟨b, 1, none⟩ = some (.int .u8 C) := by rw [Lib.cell_of_heap h]; rfl
theorem HDB.c2 (h : HDB w b W C H L) : w.cell? ⟨b, 2, none⟩ = some (.int .u8 H) := by rw [Lib.cell_of_heap h]; rfl
theorem HDB.c3 (h : HDB w b W C H L) : w.cell? ⟨b, 3, none⟩ = some (.int .u8 L) := by rw [Lib.cell_of_heap h]; rfl
theorem HDB.new (w : World) (W C H L : Int) : HDB (w.alloc (.cells #[.int .i8 W, .int .u8 C, .int .u8 H, .int .u8 L] 24)) w.heap.size W C H L := heap_alloc_new w _
theorem HDB.below (h : HDB w b W C H L) (hb : Below K w w') (hK : b < K) : HDB w' b W C H L := (hb.block b hK).trans h
end
/-- the world behind the slices of the statement -/
theorem box_tt (w : World) (g : ByteArray) : ∃ W, (((((w.alloc (.cells #[.string ⟨#[77]⟩, .string ⟨#[]⟩] 27)).alloc (.cells #[.string ⟨#[20]⟩] 40)).alloc (.cells #[.string ⟨#[4]⟩, .int .i64 0, .bool false, .string ⟨#[1]⟩] 43)).alloc (.cells #[.int .i64 0, .string g, .slice (some ⟨w.heap.size + 1 + 1, 0, none⟩) 1 1] 46)).alloc (.cells #[.slice (some ⟨w.heap.size, 0, none⟩) 1 1, .slice (some ⟨w.heap.size + 1, 0, none⟩) 1 1, .slice (some ⟨w.heap.size + 1 + 1 + 1, 0, none⟩) 1 1] 49)) = W ∧
    SS W ⟨some ⟨w.heap.size, 0, none⟩, 1, some ⟨w.heap.size + 1, 0, none⟩, 1, some ⟨w.heap.size + 1 + 1 + 1, 0, none⟩, 1⟩ (ttS g (some ⟨w.heap.size + 1 + 1, 0, none⟩) 1) ∧ SXB W (w.heap.size + 1 + 1 + 1 + 1) ⟨some ⟨w.heap.size, 0, none⟩, 1, some ⟨w.heap.size + 1, 0, none⟩, 1, some ⟨w.heap.size + 1 + 1 + 1, 0, none⟩, 1⟩ (ttS g (some ⟨w.heap.size + 1 + 1, 0, none⟩) 1) ∧ Below w.heap.size w W := by
  have b1 := (Below.refl _ w).alloc (Nat.le_refl _) (.cells #[.string ⟨#[77]⟩, .string ⟨#[]⟩] 27)
  have h1 := GB.new w ⟨#[77]⟩ ⟨#[]⟩
  generalize hw1 : w.alloc (.cells #[.string ⟨#[77]⟩, .string ⟨#[]⟩] 27) = w1 at b1 h1 ⊢
  have s1 : w1.heap.size = w.heap.size + 1 := by rw [← hw1]; simp
  have b2 := (Below.refl _ w1).alloc (Nat.le_refl _) (.cells #[.string ⟨#[20]⟩] 40)
  have h2 := VrB.new w1 ⟨#[20]⟩
  have h1 := h1.below b2 h1.lt
  generalize hw2 : w1.alloc (.cells #[.string ⟨#[20]⟩] 40) = w2 at b2 h1 h2 ⊢
  have s2 : w2.heap.size = w.heap.size + 1 + 1 := by rw [← hw2]; simp [s1]
  have b3 := (Below.refl _ w2).alloc (Nat.le_refl _) (.cells #[.string ⟨#[4]⟩, .int .i64 0, .bool false, .string ⟨#[1]⟩] 43)
  have h3 := TmB.new w2 ⟨#[4]⟩ 0 false ⟨#[1]⟩
  have h1 := h1.below b3 h1.lt
  have h2 := h2.below b3 h2.lt
  generalize hw3 : w2.alloc (.cells #[.string ⟨#[4]⟩, .int .i64 0, .bool false, .string ⟨#[1]⟩] 43) = w3 at b3 h1 h2 h3 ⊢
  have s3 : w3.heap.size = w.heap.size + 1 + 1 + 1 := by rw [← hw3]; simp [s2]
  have b4 := (Below.refl _ w3).alloc (Nat.le_refl _) (.cells #[.int .i64 0, .string g, .slice (some ⟨w.heap.size + 1 + 1, 0, none⟩) 1 1] 46)
  have h4 := QB.new w3 0 g (.slice (some ⟨w.heap.size + 1 + 1, 0, none⟩) 1 1)
  have h1 := h1.below b4 h1.lt
  have h2 := h2.below b4 h2.lt
  have h3 := h3.below b4 h3.lt
  generalize hw4 : w3.alloc (.cells #[.int .i64 0, .string g, .slice (some ⟨w.heap.size + 1 + 1, 0, none⟩) 1 1] 46) = w4 at b4 h1 h2 h3 h4 ⊢
  have s4 : w4.heap.size = w.heap.size + 1 + 1 + 1 + 1 := by rw [← hw4]; simp [s3]
  have b5 := (Below.refl _ w4).alloc (Nat.le_refl _) (.cells #[.slice (some ⟨w.heap.size, 0, none⟩) 1 1, .slice (some ⟨w.heap.size + 1, 0, none⟩) 1 1, .slice (some ⟨w.heap.size + 1 + 1 + 1, 0, none⟩) 1 1] 49)
  have h5 := SXB.new w4 ⟨some ⟨w.heap.size, 0, none⟩, 1, some ⟨w.heap.size + 1, 0, none⟩, 1, some ⟨w.heap.size + 1 + 1 + 1, 0, none⟩, 1⟩ (ttS g (some ⟨w.heap.size + 1 + 1, 0, none⟩) 1)
  have h1 := h1.below b5 h1.lt
  have h2 := h2.below b5 h2.lt
  have h3 := h3.below b5 h3.lt
  have h4 := h4.below b5 h4.lt
  rw [s1] at h2
  rw [s2] at h3
  rw [s3] at h4
  rw [s4] at h5
  refine ⟨_, rfl, ⟨fun k hk => ?_, fun k hk => ?_, fun k hk => ?_⟩, h5, b1.trans ((b2.mono (by omega)).trans ((b3.mono (by omega)).trans ((b4.mono (by omega)).trans (b5.mono (by omega)))))⟩
  · obtain rfl : k = 0 := by simp [ttS] at hk; omega
    exact ⟨_, 0, rfl, h1.c0, h1.c1⟩
  · obtain rfl : k = 0 := by simp [ttS] at hk; omega
    exact ⟨_, 0, rfl, h2.c0⟩
  · obtain rfl : k = 0 := by simp [ttS] at hk; omega
    refine ⟨_, 0, rfl, h4.c0, h4.c1, h4.c2, fun j hj => ?_⟩
    obtain rfl : j = 0 := by simp [ttS] at hj; omega
    exact ⟨_, 0, rfl, h3.c0, h3.c1, h3.c2, h3.c3⟩
set_option maxHeartbeats 32000000 in
theorem top_walk (W C H L : Int) (w : World) (hW1 : -128 ≤ W) (hW2 : W ≤ 127) (hC1 : 0 ≤ C) (hC2 : C ≤ 255) (hH1 : 0 ≤ H) (hH2 : H ≤ 255) (hL1 : 0 ≤ L) (hL2 : L ≤ 255) :
    Calls Tryz.prog 3 #[.agg #[.int .i8 W, .int .u8 C, .int .u8 H, .int .u8 L]] w fun e w' => e = .returned (.bool true) ∧ Below w.heap.size w w' := by
  obtain ⟨Kc, hK, hK1, hK2⟩ : ∃ Kc : Nat, (Kc : Int) = H.tmod 2 + 2 ∧ 2 ≤ Kc ∧ Kc < 4 := ⟨(H.tmod 2 + 2).toNat, by have := Int.tmod_nonneg 2 hH1; omega, by have := Int.tmod_nonneg 2 hH1; omega, by have := Int.tmod_lt_of_pos H (show (0 : Int) < 2 by omega); omega⟩
  obtain ⟨Lc, hL, hLc1, hLc2⟩ : ∃ Lc : Nat, (Lc : Int) = L.tmod 2 + 2 ∧ 2 ≤ Lc ∧ Lc < 4 := ⟨(L.tmod 2 + 2).toNat, by have := Int.tmod_nonneg 2 hL1; omega, by have := Int.tmod_nonneg 2 hL1; omega, by have := Int.tmod_lt_of_pos L (show (0 : Int) < 2 by omega); omega⟩
  obtain ⟨c, hc, hcK⟩ : ∃ c : Nat, (c : Int) = C.tmod (Kc : Int) ∧ c < Kc := ⟨(C.tmod Kc).toNat, by have := Int.tmod_nonneg (Kc : Int) hC1; omega, by have := Int.tmod_lt_of_pos C (show (0 : Int) < (Kc : Int) by omega); omega⟩
  obtain ⟨v, hv, hv1⟩ : ∃ v : Int, W.tmod 20 = v ∧ v.natAbs < 20 := ⟨W.tmod 20, rfl, by
    have h1 := Int.tmod_lt_of_pos W (show (0 : Int) < 20 by omega)
    have h2 := Int.lt_tmod_of_pos W (show (0 : Int) < 20 by omega)
    omega⟩
  have f1 : IntKind.i64.wrap W = W := by rw [IntKind.wrap_i64]; omega
  have f2 : IntKind.i64.wrap (v - 15) = v - 15 := by rw [IntKind.wrap_i64]; omega
  have f3 : IntKind.i64.wrap (v + 15) = v + 15 := by rw [IntKind.wrap_i64]; omega
  have f4 : IntKind.u64.wrap (H.tmod 2) = H.tmod 2 := by rw [IntKind.wrap_u64]; have := Int.tmod_nonneg 2 hH1; omega
  have f5 : IntKind.u64.wrap (H.tmod 2 + 2) = (Kc : Int) := by rw [IntKind.wrap_u64]; omega
  have f6 : IntKind.u64.wrap (L.tmod 2) = L.tmod 2 := by rw [IntKind.wrap_u64]; have := Int.tmod_nonneg 2 hL1; omega
  have f7 : IntKind.u64.wrap (L.tmod 2 + 2) = (Lc : Int) := by rw [IntKind.wrap_u64]; omega
  have f8 : IntKind.u64.wrap C = C := by rw [IntKind.wrap_u64]; omega
  have f9 : ¬ (Kc = 0) := by omega
  have hb1 := (Below.refl _ w).alloc (Nat.le_refl _) (.cells #[.int .i8 W, .int .u8 C, .int .u8 H, .int .u8 L] 24)
  have hb := hb1.alloc hb1.size (.cells #[.string ⟨#[77]⟩, .string ⟨#[]⟩] 27)
  have hH := (HDB.new w W C H L).below ((Below.refl _ (w.alloc (.cells #[.int .i8 W, .int .u8 C, .int .u8 H, .int .u8 L] 24))).alloc (Nat.le_refl _) (.cells #[.string ⟨#[77]⟩, .string ⟨#[]⟩] 27)) (HDB.new w W C H L).lt
  have hG := GB.new (w.alloc (.cells #[.int .i8 W, .int .u8 C, .int .u8 H, .int .u8 L] 24)) ⟨#[77]⟩ ⟨#[]⟩
  rw [World.size_alloc] at hG
  have h0 := hH.c0
  have h1 := hH.c1
  have h2 := hH.c2
  have h3 := hH.c3
  -- the other witness
  obtain ⟨o, ho, hoe⟩ : ∃ o : Int, o.natAbs < 20 ∧ (o % 15 = v % 15 ∧ (v ≤ 0 ∧ o = v + 15 ∨ ¬ v ≤ 0 ∧ o = v - 15)) := by
    by_cases h : v ≤ 0
    · exact ⟨v + 15, by omega, by omega, .inl ⟨h, rfl⟩⟩
    · exact ⟨v - 15, by omega, by omega, .inr ⟨h, rfl⟩⟩
  have ho15 := hoe.1
  have hoe2 := hoe.2
  have hc' := hc.symm
  clear hK hL hc
  clear hW1 hW2 hC1 hC2 hH1 hH2 hL1 hL2 hb1 hoe
  go_enter Tryz.func3, Tryz.ntmps3
  go_upto_region 4 with fail
  generalize hW0 : World.alloc (World.alloc w _) _ = W0 at hb hH hG h0 h1 h2 h3 ⊢
  clear hW0
  go_cut [34] from 33 to 33 (fun v34 wc => v34 = .bool (decide (v ≤ 0)) ∧ wc = W0)
  case first =>
    clear hoe2
    go_wp2_with fail
    go_meet
    exact ⟨rfl, rfl⟩
  case rest =>
    obtain ⟨rfl, rfl⟩ := hcut
    refine ‹∀ (a : Act) (w : World), Code.wp _ _ _ a w → _› _ _ ?_
    go_cut [5, 34] from 35 to 36 (fun v5 _ wc' => v5 = .int .i64 o ∧ wc' = wc)
    case first =>
      rcases hoe2 with ⟨hle, rfl⟩ | ⟨hle, rfl⟩
      · have hd : decide (v ≤ 0) = true := decide_eq_true hle
        go_wp2_with fail
        go_meet
        exact ⟨rfl, rfl⟩
      · have hd : decide (v ≤ 0) = false := decide_eq_false hle
        go_wp2_with fail
        go_meet
        exact ⟨rfl, rfl⟩
    case rest =>
      obtain ⟨rfl, rfl⟩ := hcut
      rename World => W0
      clear hoe2 f2 f3
      go_wp2_with fail
      have HO1 := Lib.hid (fun w' => Of_any Kc w' (by omega))
      have HO2 := Lib.hid (fun w' => Of_any Lc w' (by omega))
      go_cut [7] from 42 to 50 (fun v7 wc => ∃ p, v7 = .pointer (some ⟨p, 0, none⟩) ∧ RUB wc p (enc Kc) (enc Lc) ∧ Below W0.heap.size W0 wc)
      case first =>
        have HMK := Lib.hid (fun w' (hw : Below W0.heap.size W0 w') => (⟨cells_keepL hw (Nat.le_refl _) _ _ h3, hw⟩ : w'.cell? ⟨w.heap.size, 3, none⟩ = some (.int .u8 L) ∧ Below W0.heap.size W0 w'))
        go_region_held3 (fun w' => w'.cell? ⟨w.heap.size, 3, none⟩ = some (.int .u8 L) ∧ Below W0.heap.size W0 w')
          (first | assumption | (refine HMK.out _ ?_; repeat' (first | assumption | with_reducible exact Below.refl _ _ | with_reducible refine Below.drew ?_ | with_reducible refine Below.alloc ?_ (by first | with_reducible exact hbm.size | with_reducible exact hbn.size | (simp; done) | (simp; omega)) _ | with_reducible refine Below.setCell ?_ (by first | exact hbn.size | (simp; done) | (simp; omega)) _)))
          (first
            | (go_at_call 4; (with_reducible refine (HO1.out _).mono ?_); rintro e wn ⟨rfl, bn⟩; (first | (have hbn : Below W0.heap.size W0 wn := (Below.refl _ W0).drew.trans (bn.mono (Nat.le_refl _))) | (have hbn : Below W0.heap.size W0 wn := ((Below.refl _ W0).alloc (Nat.le_refl _) (.cells #[.string ⟨#[]⟩, .string ⟨#[]⟩] 31)).drew.trans (bn.mono (by simp)); have hrn := RUB.below (w := (W0.alloc (.cells #[.string ⟨#[]⟩, .string ⟨#[]⟩] 31)).drew) (RUB.new W0 ⟨#[]⟩ ⟨#[]⟩) bn (RUB.new W0 ⟨#[]⟩ ⟨#[]⟩).lt)))
            | (go_at_call 4; (with_reducible refine (HO2.out _).mono ?_); rintro e wm ⟨rfl, bm⟩; (first | (have hrm := hrn.below bm hrn.lt; have hbm : Below W0.heap.size W0 wm := hbn.trans (bm.mono hbn.size); have z0 := hrm.c0; have z1 := hrm.c1; have z3 : wm.frozen? ⟨W0.heap.size, 0, none⟩ = false := Lib.frozen_of_heap hrm 0; have z4 : wm.frozen? ⟨W0.heap.size, 1, none⟩ = false := Lib.frozen_of_heap hrm 1) | (have hrm := (RUB.new wn ⟨#[]⟩ ⟨#[]⟩).below bm (RUB.new wn ⟨#[]⟩ ⟨#[]⟩).lt; have hbm : Below W0.heap.size W0 wm := (hbn.alloc hbn.size (.cells #[.string ⟨#[]⟩, .string ⟨#[]⟩] 31)).trans (bm.mono (hbn.alloc hbn.size (.cells #[.string ⟨#[]⟩, .string ⟨#[]⟩] 31)).size); have z0 := hrm.c0; have z1 := hrm.c1; have z3 : wm.frozen? ⟨wn.heap.size, 0, none⟩ = false := Lib.frozen_of_heap hrm 0; have z4 : wm.frozen? ⟨wn.heap.size, 1, none⟩ = false := Lib.frozen_of_heap hrm 1) | (have hbm : Below W0.heap.size W0 wm := hbn.trans (bm.mono hbn.size)))))
        all_goals
          go_wp2_with fail
          go_meet
          first
            | exact ⟨_, rfl, put1 (put1 hrm), (hbm.setCell (p := ⟨W0.heap.size, 0, none⟩) (Nat.le_refl _) _).setCell (p := ⟨W0.heap.size, 1, none⟩) (Nat.le_refl _) _⟩
            | exact ⟨_, rfl, put1 (put1 hrm), (hbm.setCell (p := ⟨wn.heap.size, 0, none⟩) hbn.size _).setCell (p := ⟨wn.heap.size, 1, none⟩) hbn.size _⟩
            | exact ⟨_, rfl, RUB.new wm _ _, hbm.alloc hbm.size _⟩
      case rest =>
        obtain ⟨pr, rfl, hU, hBc⟩ := hcut
        rename World => w1
        replace hb := hb.trans (hBc.mono hb.size)
        replace hH := hH.below hBc hH.lt
        replace hG := hG.below hBc hG.lt
        clear h0 h1 h2 h3 hBc HO1 HO2 f4 f5 f6 f7
        have h1 := hH.c1
        have HOc := Lib.hid (fun w' => Of_any c w' (by omega))
        go_wp2_with fail
        refine (HOc.out _).mono ?_; rintro e w2 ⟨rfl, b2⟩
        replace hb := hb.trans (b2.mono hb.size)
        replace hG := hG.below b2 hG.lt
        replace hU := hU.below b2 hU.lt
        clear h1 hH b2 HOc hc' f8 f9
        have g0 := hG.c0
        have g1 := hG.c1
        have HSI := Lib.hid (fun (n : Int) (h : n.natAbs < 1000) w' => smallInt_any n w' h)
        have HSv := Lib.hid (HSI.out v (by omega))
        have HSo := Lib.hid (HSI.out o (by omega))
        have HE := Lib.hid (fun w' => gExp_any ⟨#[77]⟩ ⟨#[]⟩ (enc (pw 1)) (zb v) (zs v) w')
        rw [gpS_pw 1 v (by omega), gpE_pw 1 v (by omega), ← enc4, Int.one_mul] at HE
        clear HSI
        go_wp2_with fail
        go_cut [9, 10] from 57 to 63 (fun v9 v10 wc => v9 = .string (enc (pw v)) ∧ v10 = .int .i64 0 ∧ Below w2.heap.size w2 wc)
        case first =>
          have HMK := Lib.hid (fun w' (hw : Below w2.heap.size w2 w') => (⟨cells_keepL hw (Nat.le_refl _) _ _ g0, cells_keepL hw (Nat.le_refl _) _ _ g1, hw⟩ : w'.cell? ⟨w.heap.size + 1, 0, none⟩ = some (.string ⟨#[77]⟩) ∧ w'.cell? ⟨w.heap.size + 1, 1, none⟩ = some (.string ⟨#[]⟩) ∧ Below w2.heap.size w2 w'))
          go_region_held3 (fun w' => w'.cell? ⟨w.heap.size + 1, 0, none⟩ = some (.string ⟨#[77]⟩) ∧ w'.cell? ⟨w.heap.size + 1, 1, none⟩ = some (.string ⟨#[]⟩) ∧ Below w2.heap.size w2 w')
            (first | assumption | (refine HMK.out _ ?_; first | assumption | with_reducible exact (Below.refl _ _).drew | with_reducible exact hbm | with_reducible exact hbn))
            (first
              | (go_at_call 6; (with_reducible refine (HSv.out _).mono ?_); rintro e wn ⟨rfl, bn⟩; have hbn : Below w2.heap.size w2 wn := (Below.refl _ w2).drew.trans (bn.mono (Nat.le_refl _)))
              | (go_at_call 5; (with_reducible refine (HE.out _).mono ?_); rintro e wm ⟨rfl, bm⟩; have hbm : Below w2.heap.size w2 wm := hbn.trans (bm.mono hbn.size)))
          go_wp2_with fail
          go_meet
          exact ⟨rfl, rfl, hbm⟩
        case rest =>
          obtain ⟨rfl, rfl, hBc⟩ := hcut
          rename World => w3
          replace hb := hb.trans (hBc.mono hb.size)
          replace hG := hG.below hBc hG.lt
          replace hU := hU.below hBc hU.lt
          clear g0 g1 hBc HE
          have g0 := hG.c0
          have g1 := hG.c1
          obtain ⟨w4, hw4, hSS, hSX, b4⟩ := box_tt w3 (enc (pw v))
          go_wp2_with fail
          have hU4 := hU.below b4 hU.lt
          have hb4 := hb.trans (b4.mono hb.size)
          clear g0 g1 hG hU hb hw4
          generalize w3.heap.size + 1 + 1 + 1 + 1 = ps at hSX ⊢
          obtain ⟨a, ha⟩ : ∃ a : StA, (⟨some ⟨w3.heap.size, 0, none⟩, 1, some ⟨w3.heap.size + 1, 0, none⟩, 1, some ⟨w3.heap.size + 1 + 1 + 1, 0, none⟩, 1⟩ : StA) = a := ⟨_, rfl⟩
          rw [ha] at hSS hSX
          generalize (some (⟨w3.heap.size + 1 + 1, 0, none⟩ : Addr)) = ta at hSS hSX
          obtain ⟨S, hSe⟩ : ∃ S, ttS (enc (pw v)) ta 1 = S := ⟨_, rfl⟩
          rw [hSe] at hSS hSX
          have hG1 : S.G.length = 1 := by rw [← hSe]; rfl
          have hV1 : S.V.length = 1 := by rw [← hSe]; rfl
          have hQ1 : S.Q.length = 1 := by rw [← hSe]; rfl
          have hV : S.V = [⟨#[20]⟩] := by rw [← hSe]; rfl
          have hok : S.ok := by rw [← hSe]; exact tt_ok v ta 1
          have hbd : bdE (enc Kc) (enc Lc) S.pl = 0 := by rw [← hSe]; exact tt_bd v Kc Lc hK1 hK2 hLc1 hLc2 ta 1
          have sz : ∀ k, k < 4 → (enc k).size ≤ 8 := fun k hk => by rw [size_enc]; exact Nat.le_trans ((blen_le_iff k 1).2 (by omega)) (by omega)
          have HT1 := Lib.hid (fun w' (hb' : Below w4.heap.size w4 w') => transcripts_tt Kc Lc c hK1 hK2 hLc1 hLc2 hcK v v hv1 a ta 1 S hSe w' (hSS.below hb' (Nat.le_refl _)))
          have HT2 := Lib.hid (fun w' (hb' : Below w4.heap.size w4 w') => transcripts_tt Kc Lc c hK1 hK2 hLc1 hLc2 hcK v o ho a ta 1 S hSe w' (hSS.below hb' (Nat.le_refl _)))
          have HBD := Lib.hid (fun w' (hb' : Below w4.heap.size w4 w') => sBounds_one (enc Kc) (enc Lc) a S ⟨#[20]⟩ _ _ w' (hSS.below hb' (Nat.le_refl _)) hok (sz Kc hK2) (sz Lc hLc2) hV (by decide) hbd (tt_lim Kc Lc _))
          have HSIM := Lib.hid (fun (x : Nat) vo vc w' (hb' : Below w4.heap.size w4 w') (hN : NS w' vo [enc x]) (hlt : x < 2 * (Lc * Kc * 20 - (Kc - 1) * 19) - 1) => sSimulate_tt Kc Lc c hK1 hK2 hLc1 hLc2 hcK v a ta 1 S hSe vo vc x w' (hSS.below hb' (Nat.le_refl _)) hN hlt)
          rw [show LK (Lc * Kc * 20 - (Kc - 1) * 19) (c * o) = LK (Lc * Kc * 20 - (Kc - 1) * 19) (c * v) from funext fun n => LK_same (by rw [Int.mul_emod, ho15, ← Int.mul_emod]) n] at HT2
          have hKL : Lc * Kc * 20 ≤ 180 := by
            have : Lc * Kc ≤ 3 * 3 := Nat.mul_le_mul (by omega) (by omega)
            omega
          have hKL0 : 40 * Kc ≤ Lc * Kc * 20 := by
            have h0 : 2 * Kc ≤ Lc * Kc := Nat.mul_le_mul_right Kc hLc1
            omega
          obtain ⟨t, ht⟩ : ∃ t, Lc * Kc * 20 - (Kc - 1) * 19 = t := ⟨_, rfl⟩
          have ht1 : 1 ≤ t := by omega
          have ht2 : t ≤ 180 := by omega
          rw [ht] at HT1 HT2 HBD HSIM
          obtain ⟨u, hu⟩ : ∃ u : Int, (c : Int) * v = u := ⟨_, rfl⟩
          rw [hu] at HT1 HT2 HSIM
          obtain ⟨D, hD⟩ : ∃ D, mapOf (LK t u (2 * t - 1)) = D := ⟨_, rfl⟩
          rw [hD] at HT1 HT2
          have x0 := hSX.c0
          have x1 := hSX.c1
          have x2 := hSX.c2
          have u0 := hU4.c0
          have u1 := hU4.c1
          simp only [hG1, hV1, hQ1] at HT1 HT2 HBD HSIM x0 x1 x2
          clear ha hSe hSS hSX hU4 hG1 hV1 hQ1 hV hok hbd sz hKL hKL0 ht hv1 ho ho15 b4
          unfold TRP at HT1 HT2
          go_cut [12, 13] from 75 to 83 (fun v12 v13 wc => ∃ b n, v12 = .map (some b) ∧ v13 = .bool true ∧ OM wc b n D ∧ Below w4.heap.size w4 wc)
          case first =>
            have HMK := Lib.hid (fun w' (hw : Below w4.heap.size w4 w') => (⟨cells_keepL hw (Nat.le_refl _) _ _ u0, cells_keepL hw (Nat.le_refl _) _ _ u1, cells_keepL hw (Nat.le_refl _) _ _ x0, cells_keepL hw (Nat.le_refl _) _ _ x1, cells_keepL hw (Nat.le_refl _) _ _ x2, hw⟩ : w'.cell? ⟨pr, 0, none⟩ = some (.string (enc Kc)) ∧ w'.cell? ⟨pr, 1, none⟩ = some (.string (enc Lc)) ∧ w'.cell? ⟨ps, 0, none⟩ = some (.slice a.ga 1 a.gc) ∧ w'.cell? ⟨ps, 1, none⟩ = some (.slice a.va 1 a.vc) ∧ w'.cell? ⟨ps, 2, none⟩ = some (.slice a.qa 1 a.qc) ∧ Below w4.heap.size w4 w'))
            go_region_held3 (fun w' => w'.cell? ⟨pr, 0, none⟩ = some (.string (enc Kc)) ∧ w'.cell? ⟨pr, 1, none⟩ = some (.string (enc Lc)) ∧ w'.cell? ⟨ps, 0, none⟩ = some (.slice a.ga 1 a.gc) ∧ w'.cell? ⟨ps, 1, none⟩ = some (.slice a.va 1 a.vc) ∧ w'.cell? ⟨ps, 2, none⟩ = some (.slice a.qa 1 a.qc) ∧ Below w4.heap.size w4 w')
              (first | assumption | (refine HMK.out _ ?_; first | assumption | with_reducible exact (Below.refl _ _).drew | with_reducible exact hbm | with_reducible exact hbn))
              (first
                | (go_at_call 6; (with_reducible refine (HSv.out _).mono ?_); rintro e wn ⟨rfl, bn⟩; have hbn : Below w4.heap.size w4 wn := (Below.refl _ w4).drew.trans (bn.mono (Nat.le_refl _)))
                | (go_at_call 7; (with_reducible refine (HT1.out _ hbn).mono ?_); rintro e wm ⟨bq, nq, rfl, hbq, hOMq, bm⟩; have hbm : Below w4.heap.size w4 wm := hbn.trans (bm.mono hbn.size)))
            go_wp2_with fail
            go_meet
            exact ⟨_, _, rfl, rfl, hOMq, hbm⟩
          case rest =>
            obtain ⟨b1, n1, rfl, rfl, hM1, b5⟩ := hcut
            rename World => w5
            replace u0 := cells_keepL b5 (Nat.le_refl _) _ _ u0
            replace u1 := cells_keepL b5 (Nat.le_refl _) _ _ u1
            replace x0 := cells_keepL b5 (Nat.le_refl _) _ _ x0
            replace x1 := cells_keepL b5 (Nat.le_refl _) _ _ x1
            replace x2 := cells_keepL b5 (Nat.le_refl _) _ _ x2
            clear HT1 HSv
            go_wp2_with fail
            go_cut [14, 15] from 84 to 92 (fun v14 v15 wc => ∃ b n, v14 = .map (some b) ∧ v15 = .bool true ∧ OM wc b n D ∧ Below w5.heap.size w5 wc)
            case first =>
              have HMK := Lib.hid (fun w' (hw : Below w5.heap.size w5 w') => (⟨cells_keepL hw (Nat.le_refl _) _ _ u0, cells_keepL hw (Nat.le_refl _) _ _ u1, cells_keepL hw (Nat.le_refl _) _ _ x0, cells_keepL hw (Nat.le_refl _) _ _ x1, cells_keepL hw (Nat.le_refl _) _ _ x2, hw⟩ : w'.cell? ⟨pr, 0, none⟩ = some (.string (enc Kc)) ∧ w'.cell? ⟨pr, 1, none⟩ = some (.string (enc Lc)) ∧ w'.cell? ⟨ps, 0, none⟩ = some (.slice a.ga 1 a.gc) ∧ w'.cell? ⟨ps, 1, none⟩ = some (.slice a.va 1 a.vc) ∧ w'.cell? ⟨ps, 2, none⟩ = some (.slice a.qa 1 a.qc) ∧ Below w5.heap.size w5 w'))
              go_region_held3 (fun w' => w'.cell? ⟨pr, 0, none⟩ = some (.string (enc Kc)) ∧ w'.cell? ⟨pr, 1, none⟩ = some (.string (enc Lc)) ∧ w'.cell? ⟨ps, 0, none⟩ = some (.slice a.ga 1 a.gc) ∧ w'.cell? ⟨ps, 1, none⟩ = some (.slice a.va 1 a.vc) ∧ w'.cell? ⟨ps, 2, none⟩ = some (.slice a.qa 1 a.qc) ∧ Below w5.heap.size w5 w')
                (first | assumption | (refine HMK.out _ ?_; first | assumption | with_reducible exact (Below.refl _ _).drew | with_reducible exact hbm | with_reducible exact hbn))
                (first
                  | (go_at_call 6; (with_reducible refine (HSo.out _).mono ?_); rintro e wn ⟨rfl, bn⟩; have hbn : Below w5.heap.size w5 wn := (Below.refl _ w5).drew.trans (bn.mono (Nat.le_refl _)))
                  | (go_at_call 7; (with_reducible refine (HT2.out _ (b5.trans (hbn.mono b5.size))).mono ?_); rintro e wm ⟨bq, nq, rfl, hbq, hOMq, bm⟩; have hbm : Below w5.heap.size w5 wm := hbn.trans (bm.mono hbn.size)))
              go_wp2_with fail
              go_meet
              exact ⟨_, _, rfl, rfl, hOMq, hbm⟩
            case rest =>
              obtain ⟨b2, n2, rfl, rfl, hM2, b6⟩ := hcut
              rename World => w6
              replace u0 := cells_keepL b6 (Nat.le_refl _) _ _ u0
              replace u1 := cells_keepL b6 (Nat.le_refl _) _ _ u1
              replace x0 := cells_keepL b6 (Nat.le_refl _) _ _ x0
              replace x1 := cells_keepL b6 (Nat.le_refl _) _ _ x1
              replace x2 := cells_keepL b6 (Nat.le_refl _) _ _ x2
              replace hM1 := hM1.below b6 hM1.lt
              replace b5 := b5.trans (b6.mono b5.size)
              clear HT2 HSo b6
              go_wp2_with fail
              refine (sameCounts_any b1 b2 n1 n2 D w6 hM1 hM2).mono ?_; rintro e w7 ⟨rfl, b7⟩
              replace u0 := cells_keepL b7 (Nat.le_refl _) _ _ u0
              replace u1 := cells_keepL b7 (Nat.le_refl _) _ _ u1
              replace x0 := cells_keepL b7 (Nat.le_refl _) _ _ x0
              replace x1 := cells_keepL b7 (Nat.le_refl _) _ _ x1
              replace x2 := cells_keepL b7 (Nat.le_refl _) _ _ x2
              replace hM1 := hM1.below b7 hM1.lt
              replace b5 := b5.trans (b7.mono b5.size)
              clear hM2 b7
              go_wp2_with fail
              refine (HBD.out w7 b5).mono ?_; rintro e w8 ⟨mo, mc, bo, bc, rfl, _, hBN, b8⟩
              replace u0 := cells_keepL b8 (Nat.le_refl _) _ _ u0
              replace u1 := cells_keepL b8 (Nat.le_refl _) _ _ u1
              replace x0 := cells_keepL b8 (Nat.le_refl _) _ _ x0
              replace x1 := cells_keepL b8 (Nat.le_refl _) _ _ x1
              replace x2 := cells_keepL b8 (Nat.le_refl _) _ _ x2
              replace hM1 := hM1.below b8 hM1.lt
              replace b5 := b5.trans (b8.mono b5.size)
              obtain ⟨bb, bof, rfl, bb0⟩ := hBN 0 (by simp)
              simp only [Nat.add_zero, List.getElem_cons_zero] at bb0
              have HSM := Lib.hid (fun w' => Small_ok (enc t) t w' (sN (by omega)) (by rw [size_enc]; exact Nat.le_trans ((blen_le_iff t 2).2 (by omega)) (by omega)))
              have w1' : IntKind.u64.wrap (2 * (t : Int)) = 2 * (t : Int) := by rw [IntKind.wrap_u64]; omega
              have w2' : IntKind.u64.wrap (2 * (t : Int) - 1) = ((2 * t - 1 : Nat) : Int) := by rw [IntKind.wrap_u64]; omega
              have hmm := @run_makeMap Tryz.prog
              clear HBD hBN b8
              go_wp2_with fail
              refine (HSM.out _).mono ?_; rintro e w9 ⟨rfl, rfl⟩
              go_wp2_with fail
              rename World => w9
              clear bb0 hmm HSM w1' w2'
              have hOM : OM (w9.alloc (.map #[] 0)) w9.heap.size 0 (mapOf (LK t u 0)) := World.ownsMap_made _ _ _ _
              have bM := (Below.refl _ w9).alloc (Nat.le_refl _) (.map #[] 0)
              have hBn : w9.heap.size ≤ w9.heap.size := Nat.le_refl _
              have hbw := hb4.trans (b5.mono hb4.size)
              go_loopw [134] (fun v134 wr => ∃ k : Nat, k ≤ 2 * t - 1 ∧ v134 = .int .u64 (k : Int) ∧ OM wr w9.heap.size k (mapOf (LK t u k)) ∧ Below w9.heap.size w9 wr) (fun v134 _ => 2 * t - 1 - (intOf v134).toNat)
              case atStart => exact ⟨0, by omega, rfl, hOM, bM⟩
              case round =>
                clear hOM bM
                obtain ⟨k, hk, rfl, hOM, hB⟩ := hrel
                replace x0 := cells_keepL hB (Nat.le_refl _) _ _ x0
                replace x1 := cells_keepL hB (Nat.le_refl _) _ _ x1
                replace x2 := cells_keepL hB (Nat.le_refl _) _ _ x2
                replace u0 := cells_keepL hB (Nat.le_refl _) _ _ u0
                replace u1 := cells_keepL hB (Nat.le_refl _) _ _ u1
                by_cases hlt : k < 2 * t - 1
                · have hlI : ((k : Int) < ((2 * t - 1 : Nat) : Int)) := by omega
                  go_wp2_with fail
                  clear hlI
                  obtain ⟨y, hy⟩ : ∃ y : Int, (k : Int) - ((t : Int) - 1) = y := ⟨_, rfl⟩
                  have hys : y.natAbs < 65536 := by omega
                  have b5r := b5.trans (hB.mono b5.size)
                  have HC := Lib.hid (fun vo vc w' (hb' : Below wr.heap.size wr w') (hN : NS w' vo [enc k]) => HSIM.out k vo vc w' (b5r.trans (hb'.mono b5r.size)) hN hlt)
                  rw [hy] at HC
                  have hKB : enc (pw (y - u)) ++ ⟨#[47]⟩ ++ ikB y = klB t u k := by unfold klB; rw [hy]
                  have hsF : (enc (pw (y - u))).size ≤ 2 := enc_small (Nat.lt_trans (pw_lt _) (by omega))
                  have hsI := ik_size hys
                  have HEN := Lib.hid (enc_neE (pw_pos (y - u)))
                  generalize enc (pw (y - u)) = F at HC HEN hKB hsF
                  have HO := Lib.hid (fun w' => Of_any k w' (by omega))
                  go_cut [23, 24, 25] from 137 to 148 (fun v23 v24 v25 wc => ∃ p fo fc ro rc, v23 = .pointer (some ⟨p, 0, none⟩) ∧ v25 = .int .i64 0 ∧ PFB wc p (.slice fo 1 fc) (.string (enc c)) (.slice ro 1 rc) ∧ NS wc fo [F] ∧ IS wc ro [(zb y, zs y)] ∧ Below wr.heap.size wr wc)
                  case first =>
                    clear HSIM hM1 hb4 hbw hKB hsF hsI hOM hB b5 b5r
                    have hnz : ∀ u ∈ (#[.slice none 0 0, .string ⟨#[]⟩, .slice none 0 0] : Array Value).toList, u ≠ .string F := by intro u hu; simp at hu; rcases hu with rfl | rfl | rfl <;> simp; exact fun e => HEN.out e.symm
                    have hnt : ∀ u ∈ (#[.slice none 0 0, .string ⟨#[]⟩, .int .i64 0] : Array Value).toList, u ≠ .string F := by intro u hu; simp at hu; rcases hu with rfl | rfl | rfl <;> simp; exact fun e => HEN.out e.symm
                    have hiz : ∀ u ∈ (#[.slice none 0 0, .string ⟨#[]⟩, .slice none 0 0] : Array Value).toList, ∀ g, u ≠ .bool g := by intro u hu g; simp at hu; rcases hu with rfl | rfl | rfl <;> simp
                    have hit : ∀ u ∈ (#[.slice none 0 0, .string ⟨#[]⟩, .int .i64 0] : Array Value).toList, ∀ g, u ≠ .bool g := by intro u hu g; simp at hu; rcases hu with rfl | rfl | rfl <;> simp
                    have HMK := Lib.hid (fun w' (hw : Below wr.heap.size wr w') => (⟨cells_keepL hw (Nat.le_refl _) _ _ u0, cells_keepL hw (Nat.le_refl _) _ _ u1, cells_keepL hw (Nat.le_refl _) _ _ x0, cells_keepL hw (Nat.le_refl _) _ _ x1, cells_keepL hw (Nat.le_refl _) _ _ x2⟩ : w'.cell? ⟨pr, 0, none⟩ = some (.string (enc Kc)) ∧ w'.cell? ⟨pr, 1, none⟩ = some (.string (enc Lc)) ∧ w'.cell? ⟨ps, 0, none⟩ = some (.slice a.ga 1 a.gc) ∧ w'.cell? ⟨ps, 1, none⟩ = some (.slice a.va 1 a.vc) ∧ w'.cell? ⟨ps, 2, none⟩ = some (.slice a.qa 1 a.qc)))
                    refine wp_region_held_drew (S := fun w' => w'.cell? ⟨pr, 0, none⟩ = some (.string (enc Kc)) ∧ w'.cell? ⟨pr, 1, none⟩ = some (.string (enc Lc)) ∧ w'.cell? ⟨ps, 0, none⟩ = some (.slice a.ga 1 a.gc) ∧ w'.cell? ⟨ps, 1, none⟩ = some (.slice a.va 1 a.vc) ∧ w'.cell? ⟨ps, 2, none⟩ = some (.slice a.qa 1 a.qc)) (by kernel_rfl) (HMK.out _ (Below.refl _ wr).drew) (fun hS' => ?_)
                    refine tkT 0 138 (.agg #[.string (enc Kc), .string (enc Lc)]) rfl rfl (by kernel_rfl) (fun _ _ _ _ _ h => h) (.inl ⟨by rfl, fun w' hSw => (by obtain ⟨g0, g1, g2, g3, g4⟩ := hSw; go_simp)⟩) (by assumption) ?_
                    try simp only [put9T, List.set]
                    refine tkT 1 139 (.agg #[.slice a.ga 1 a.gc, .slice a.va 1 a.vc, .slice a.qa 1 a.qc]) rfl rfl (by kernel_rfl) (fun _ _ _ _ _ h => h) (.inl ⟨by rfl, fun w' hSw => (by obtain ⟨g0, g1, g2, g3, g4⟩ := hSw; go_simp)⟩) (by assumption) ?_
                    try simp only [put9T, List.set]
                    refine tkT 2 140 (.string (enc c)) rfl rfl (by kernel_rfl) (fun _ _ _ _ _ h => h) (.inl ⟨by rfl, fun w' hSw => (by go_simp)⟩) (by assumption) ?_
                    try simp only [put9T, List.set]
                    refine tkT 3 141 (.int .u64 (k : Int)) rfl rfl (by kernel_rfl) (fun _ _ _ _ _ h => h) (.inl ⟨by rfl, fun w' hSw => (by go_simp)⟩) (by assumption) ?_
                    try simp only [put9T, List.set]
                    have b0 : Below wr.heap.size wr wr.drew := (Below.refl _ wr).drew
                    generalize wr.drew = W0 at b0 hS' ⊢
                    refine wpAnyH_ready (rs := [4, 12, 13]) (by kernel_rfl) (by simp) ?_
                    refine AllReadyH.cons rfl (fun K hK => ?_) (AllReadyH.cons rfl (fun K hK => ?_) (AllReadyH.cons rfl (fun K hK => ?_) AllReadyH.nil))
                    · rw [if_pos (by rfl)]
                      go_simp
                      go_at_call 4
                      refine (HO.out _).mono ?_; rintro e W1 ⟨rfl, kb⟩
                      replace b0 := b0.trans (kb.mono b0.size)
                      clear kb
                      refine hK.out _ _ (HMK.out _ b0) (fun hS' => ?_)
                      clear hK
                      try simp only [put9T, List.set]
                      refine wpAnyH_ready (rs := [5, 12, 13]) (by kernel_rfl) (by simp) ?_
                      refine AllReadyH.cons rfl (fun K hK => ?_) (AllReadyH.cons rfl (fun K hK => ?_) (AllReadyH.cons rfl (fun K hK => ?_) AllReadyH.nil))
                      · rw [if_pos (by rfl)]
                        go_simp
                        have kb := (Below.refl _ W1).alloc (Nat.le_refl _) (.cells #[.string (enc k)] 25)
                        have hX := SB.new W1 (enc k)
                        replace b0 := b0.trans (kb.mono b0.size)
                        clear kb
                        refine hK.out _ _ (HMK.out _ b0) (fun hS' => ?_)
                        clear hK
                        try simp only [put9T, List.set]
                        generalize W1.heap.size = px at hX ⊢
                        generalize World.alloc W1 _ = W2 at hX b0 hS' ⊢
                        refine tkT 6 144 (.agg #[.slice (some ⟨px, 0, none⟩) 1 1, .string ⟨#[]⟩, .int .i64 0]) rfl rfl (by kernel_rfl) (fun _ _ _ _ _ h => h) (.inl ⟨by rfl, fun w' hSw => (by go_simp)⟩) (by assumption) ?_
                        try simp only [put9T, List.set]
                        refine wpAnyH_ready (rs := [7, 12, 13]) (by kernel_rfl) (by simp) ?_
                        refine AllReadyH.cons rfl (fun K hK => ?_) (AllReadyH.cons rfl (fun K hK => ?_) (AllReadyH.cons rfl (fun K hK => ?_) AllReadyH.nil))
                        · rw [if_pos (by rfl)]
                          go_simp
                          go_at_call 11
                          refine (HC.out _ _ _ b0 hX.ns).mono ?_; rintro e W3 ⟨fo, fc, ro, rc, no, nc, rfl, hN, hI, kb⟩
                          clear hX
                          replace b0 := b0.trans (kb.mono b0.size)
                          clear kb
                          refine hK.out _ _ (HMK.out _ b0) (fun hS' => ?_)
                          clear hK
                          try simp only [put9T, List.set]
                          refine tkT 8 137 (.tuple #[.agg #[.slice fo 1 fc, .string (enc c), .slice ro 1 rc], .agg #[.slice no 1 nc, .string ⟨#[]⟩, .int .i64 1], .int .i64 0]) rfl rfl (by kernel_rfl) (fun _ _ _ _ _ h => h) (.inl ⟨by rfl, fun w' hSw => (by go_simp)⟩) (by assumption) ?_
                          try simp only [put9T, List.set]
                          refine tkT 9 146 (.agg #[.slice fo 1 fc, .string (enc c), .slice ro 1 rc]) rfl rfl (by kernel_rfl) (fun _ _ _ _ _ h => h) (.inl ⟨by rfl, fun w' hSw => (by go_simp)⟩) (by assumption) ?_
                          try simp only [put9T, List.set]
                          refine tkT 10 147 (.agg #[.slice no 1 nc, .string ⟨#[]⟩, .int .i64 1]) rfl rfl (by kernel_rfl) (fun _ _ _ _ _ h => h) (.inl ⟨by rfl, fun w' hSw => (by go_simp)⟩) (by assumption) ?_
                          try simp only [put9T, List.set]
                          refine tkT 11 148 (.int .i64 0) rfl rfl (by kernel_rfl) (fun _ _ _ _ _ h => h) (.inl ⟨by rfl, fun w' hSw => (by go_simp)⟩) (by assumption) ?_
                          try simp only [put9T, List.set]
                          refine wpAnyH_ready (rs := [12, 13]) (by kernel_rfl) (by simp) ?_
                          refine AllReadyH.cons rfl (fun K hK => ?_) (AllReadyH.cons rfl (fun K hK => ?_) AllReadyH.nil)
                          · rw [if_pos (by rfl)]
                            go_simp
                            have kb := (Below.refl _ W3).alloc (Nat.le_refl _) (.cells #[.slice none 0 0, .string ⟨#[]⟩, .slice none 0 0] 61)
                            have hpp : wr.heap.size ≤ W3.heap.size := b0.size
                            replace hN := hN.keepL (cells_keepL kb (Nat.le_refl _))
                            replace hI := hI.keepL (cells_keepL kb (Nat.le_refl _))
                            have hP := PFB.new W3 (.slice none 0 0) (.string ⟨#[]⟩) (.slice none 0 0)
                            replace b0 := b0.trans (kb.mono b0.size)
                            clear kb
                            refine hK.out _ _ (HMK.out _ b0) (fun hS' => ?_)
                            clear hK
                            try simp only [put9T, List.set]
                            generalize W3.heap.size = pp at hP hpp ⊢
                            generalize World.alloc W3 _ = W4 at hN hI hP b0 hS' ⊢
                            refine wpAnyH_ready (rs := [13]) (by kernel_rfl) (by simp) ?_
                            refine AllReadyH.cons rfl (fun K hK => ?_) AllReadyH.nil
                            rw [if_pos (by rfl)]
                            go_simp
                            have kb := (Below.refl _ W4).alloc (Nat.le_refl _) (.cells #[.slice none 0 0, .string ⟨#[]⟩, .int .i64 0] 63)
                            have hpt : wr.heap.size ≤ W4.heap.size := b0.size
                            have hne : pp ≠ W4.heap.size := Nat.ne_of_lt hP.lt
                            replace hN := hN.keepL (cells_keepL kb (Nat.le_refl _))
                            replace hI := hI.keepL (cells_keepL kb (Nat.le_refl _))
                            replace hP := hP.below kb hP.lt
                            have hT := TPB.new W4 (.slice none 0 0) (.string ⟨#[]⟩) (.int .i64 0)
                            replace b0 := b0.trans (kb.mono b0.size)
                            clear kb
                            refine hK.out _ _ (HMK.out _ b0) (fun hS' => ?_)
                            clear hK
                            try simp only [put9T, List.set]
                            generalize W4.heap.size = pt at hT hpt hne ⊢
                            generalize World.alloc W4 _ = W5 at hN hI hP hT b0 hS' ⊢
                            refine wpAnyH_ready (rs := [14]) (by kernel_rfl) (by simp) ?_
                            refine AllReadyH.cons rfl (fun K hK => ?_) AllReadyH.nil
                            rw [if_pos (by rfl)]
                            have z0 := hP.c0
                            have z1 := hP.c1
                            have z2 := hP.c2
                            have z3 := hP.f 0
                            have z4 := hP.f 1
                            have z5 := hP.f 2
                            go_simp
                            have e := fun j hj => put3_other W5 pp (.slice fo 1 fc) (.string (enc c)) (.slice ro 1 rc) j hj
                            replace hN := hN.heap (fun b off he => e b (hN.ne hP hnz b off he))
                            replace hI := hI.heap (fun b off he => e b (hI.ne (by simp) hP hiz b off he))
                            replace hT : TPB _ pt _ _ _ := (e pt (Ne.symm hne)).trans hT
                            replace b0 := ((b0.setCell (p := ⟨pp, 0, none⟩) hpp (.slice fo 1 fc)).setCell (p := ⟨pp, 1, none⟩) hpp (.string (enc c))).setCell (p := ⟨pp, 2, none⟩) hpp (.slice ro 1 rc)
                            replace hP := hP.put (.slice fo 1 fc) (.string (enc c)) (.slice ro 1 rc)
                            refine hK.out _ _ (HMK.out _ b0) (fun hS' => ?_)
                            clear hK e z0 z1 z2 z3 z4 z5
                            try simp only [put9T, List.set]
                            generalize World.setCell (World.setCell (World.setCell W5 _ _) _ _) _ _ = W6 at hP hT hN hI b0 hS' ⊢
                            refine wpAnyH_ready (rs := [15]) (by kernel_rfl) (by simp) ?_
                            refine AllReadyH.cons rfl (fun K hK => ?_) AllReadyH.nil
                            rw [if_pos (by rfl)]
                            have z0 := hT.c0
                            have z1 := hT.c1
                            have z2 := hT.c2
                            have z3 := hT.f 0
                            have z4 := hT.f 1
                            have z5 := hT.f 2
                            go_simp
                            have e := fun j hj => put3_other W6 pt (.slice no 1 nc) (.string ⟨#[]⟩) (.int .i64 1) j hj
                            replace hN := hN.heap (fun b off he => e b (hN.ne hT hnt b off he))
                            replace hI := hI.heap (fun b off he => e b (hI.ne (by simp) hT hit b off he))
                            replace hP : PFB _ pp _ _ _ := (e pp hne).trans hP
                            replace b0 := ((b0.setCell (p := ⟨pt, 0, none⟩) hpt (.slice no 1 nc)).setCell (p := ⟨pt, 1, none⟩) hpt (.string ⟨#[]⟩)).setCell (p := ⟨pt, 2, none⟩) hpt (.int .i64 1)
                            replace hT := hT.put (v0 := .slice no 1 nc) (v1 := .string ⟨#[]⟩) (v2 := .int .i64 1)
                            refine hK.out _ _ (HMK.out _ b0) (fun hS' => ?_)
                            clear hK e z0 z1 z2 z3 z4 z5
                            try simp only [put9T, List.set]
                            generalize World.setCell (World.setCell (World.setCell W6 _ _) _ _) _ _ = W7 at hP hT hN hI b0 hS' ⊢
                            refine tkT 16 25 (.int .i64 0) rfl rfl (by kernel_rfl) (fun _ _ _ _ _ h => h) (.inl ⟨by rfl, fun w' hSw => (by go_simp)⟩) (by assumption) ?_
                            try simp only [put9T, List.set]
                            refine wpAnyH_done (by kernel_rfl) ?_ _
                            clear hS'
                            go_wp2_with fail
                            go_meet
                            exact ⟨pp, fo, fc, ro, rc, rfl, rfl, hP, hN, hI, b0⟩
                          · rw [if_pos (by rfl)]
                            go_simp
                            have kb := (Below.refl _ W3).alloc (Nat.le_refl _) (.cells #[.slice none 0 0, .string ⟨#[]⟩, .int .i64 0] 63)
                            have hpt : wr.heap.size ≤ W3.heap.size := b0.size
                            replace hN := hN.keepL (cells_keepL kb (Nat.le_refl _))
                            replace hI := hI.keepL (cells_keepL kb (Nat.le_refl _))
                            have hT := TPB.new W3 (.slice none 0 0) (.string ⟨#[]⟩) (.int .i64 0)
                            replace b0 := b0.trans (kb.mono b0.size)
                            clear kb
                            refine hK.out _ _ (HMK.out _ b0) (fun hS' => ?_)
                            clear hK
                            try simp only [put9T, List.set]
                            generalize W3.heap.size = pt at hT hpt ⊢
                            generalize World.alloc W3 _ = W4 at hN hI hT b0 hS' ⊢
                            refine wpAnyH_ready (rs := [12]) (by kernel_rfl) (by simp) ?_
                            refine AllReadyH.cons rfl (fun K hK => ?_) AllReadyH.nil
                            rw [if_pos (by rfl)]
                            go_simp
                            have kb := (Below.refl _ W4).alloc (Nat.le_refl _) (.cells #[.slice none 0 0, .string ⟨#[]⟩, .slice none 0 0] 61)
                            have hpp : wr.heap.size ≤ W4.heap.size := b0.size
                            have hne : W4.heap.size ≠ pt := Nat.ne_of_gt hT.lt
                            replace hN := hN.keepL (cells_keepL kb (Nat.le_refl _))
                            replace hI := hI.keepL (cells_keepL kb (Nat.le_refl _))
                            replace hT := hT.below kb hT.lt
                            have hP := PFB.new W4 (.slice none 0 0) (.string ⟨#[]⟩) (.slice none 0 0)
                            replace b0 := b0.trans (kb.mono b0.size)
                            clear kb
                            refine hK.out _ _ (HMK.out _ b0) (fun hS' => ?_)
                            clear hK
                            try simp only [put9T, List.set]
                            generalize W4.heap.size = pp at hP hpp hne ⊢
                            generalize World.alloc W4 _ = W5 at hN hI hT hP b0 hS' ⊢
                            refine wpAnyH_ready (rs := [14]) (by kernel_rfl) (by simp) ?_
                            refine AllReadyH.cons rfl (fun K hK => ?_) AllReadyH.nil
                            rw [if_pos (by rfl)]
                            have z0 := hP.c0
                            have z1 := hP.c1
                            have z2 := hP.c2
                            have z3 := hP.f 0
                            have z4 := hP.f 1
                            have z5 := hP.f 2
                            go_simp
                            have e := fun j hj => put3_other W5 pp (.slice fo 1 fc) (.string (enc c)) (.slice ro 1 rc) j hj
                            replace hN := hN.heap (fun b off he => e b (hN.ne hP hnz b off he))
                            replace hI := hI.heap (fun b off he => e b (hI.ne (by simp) hP hiz b off he))
                            replace hT : TPB _ pt _ _ _ := (e pt (Ne.symm hne)).trans hT
                            replace b0 := ((b0.setCell (p := ⟨pp, 0, none⟩) hpp (.slice fo 1 fc)).setCell (p := ⟨pp, 1, none⟩) hpp (.string (enc c))).setCell (p := ⟨pp, 2, none⟩) hpp (.slice ro 1 rc)
                            replace hP := hP.put (.slice fo 1 fc) (.string (enc c)) (.slice ro 1 rc)
                            refine hK.out _ _ (HMK.out _ b0) (fun hS' => ?_)
                            clear hK e z0 z1 z2 z3 z4 z5
                            try simp only [put9T, List.set]
                            generalize World.setCell (World.setCell (World.setCell W5 _ _) _ _) _ _ = W6 at hP hT hN hI b0 hS' ⊢
                            refine wpAnyH_ready (rs := [15]) (by kernel_rfl) (by simp) ?_
                            refine AllReadyH.cons rfl (fun K hK => ?_) AllReadyH.nil
                            rw [if_pos (by rfl)]
                            have z0 := hT.c0
                            have z1 := hT.c1
                            have z2 := hT.c2
                            have z3 := hT.f 0
                            have z4 := hT.f 1
                            have z5 := hT.f 2
                            go_simp
                            have e := fun j hj => put3_other W6 pt (.slice no 1 nc) (.string ⟨#[]⟩) (.int .i64 1) j hj
                            replace hN := hN.heap (fun b off he => e b (hN.ne hT hnt b off he))
                            replace hI := hI.heap (fun b off he => e b (hI.ne (by simp) hT hit b off he))
                            replace hP : PFB _ pp _ _ _ := (e pp hne).trans hP
                            replace b0 := ((b0.setCell (p := ⟨pt, 0, none⟩) hpt (.slice no 1 nc)).setCell (p := ⟨pt, 1, none⟩) hpt (.string ⟨#[]⟩)).setCell (p := ⟨pt, 2, none⟩) hpt (.int .i64 1)
                            replace hT := hT.put (v0 := .slice no 1 nc) (v1 := .string ⟨#[]⟩) (v2 := .int .i64 1)
                            refine hK.out _ _ (HMK.out _ b0) (fun hS' => ?_)
                            clear hK e z0 z1 z2 z3 z4 z5
                            try simp only [put9T, List.set]
                            generalize World.setCell (World.setCell (World.setCell W6 _ _) _ _) _ _ = W7 at hP hT hN hI b0 hS' ⊢
                            refine tkT 16 25 (.int .i64 0) rfl rfl (by kernel_rfl) (fun _ _ _ _ _ h => h) (.inl ⟨by rfl, fun w' hSw => (by go_simp)⟩) (by assumption) ?_
                            try simp only [put9T, List.set]
                            refine wpAnyH_done (by kernel_rfl) ?_ _
                            clear hS'
                            go_wp2_with fail
                            go_meet
                            exact ⟨pp, fo, fc, ro, rc, rfl, rfl, hP, hN, hI, b0⟩
                        · rw [if_pos (by rfl)]
                          go_simp
                          have kb := (Below.refl _ W2).alloc (Nat.le_refl _) (.cells #[.slice none 0 0, .string ⟨#[]⟩, .slice none 0 0] 61)
                          have hpp : wr.heap.size ≤ W2.heap.size := b0.size
                          replace hX := hX.below kb hX.lt
                          have hP := PFB.new W2 (.slice none 0 0) (.string ⟨#[]⟩) (.slice none 0 0)
                          replace b0 := b0.trans (kb.mono b0.size)
                          clear kb
                          refine hK.out _ _ (HMK.out _ b0) (fun hS' => ?_)
                          clear hK
                          try simp only [put9T, List.set]
                          generalize W2.heap.size = pp at hP hpp ⊢
                          generalize World.alloc W2 _ = W3 at hX hP b0 hS' ⊢
                          refine wpAnyH_ready (rs := [7, 13]) (by kernel_rfl) (by simp) ?_
                          refine AllReadyH.cons rfl (fun K hK => ?_) (AllReadyH.cons rfl (fun K hK => ?_) AllReadyH.nil)
                          · rw [if_pos (by rfl)]
                            go_simp
                            go_at_call 11
                            refine (HC.out _ _ _ b0 hX.ns).mono ?_; rintro e W4 ⟨fo, fc, ro, rc, no, nc, rfl, hN, hI, kb⟩
                            clear hX
                            replace hP := hP.below kb hP.lt
                            replace b0 := b0.trans (kb.mono b0.size)
                            clear kb
                            refine hK.out _ _ (HMK.out _ b0) (fun hS' => ?_)
                            clear hK
                            try simp only [put9T, List.set]
                            refine tkT 8 137 (.tuple #[.agg #[.slice fo 1 fc, .string (enc c), .slice ro 1 rc], .agg #[.slice no 1 nc, .string ⟨#[]⟩, .int .i64 1], .int .i64 0]) rfl rfl (by kernel_rfl) (fun _ _ _ _ _ h => h) (.inl ⟨by rfl, fun w' hSw => (by go_simp)⟩) (by assumption) ?_
                            try simp only [put9T, List.set]
                            refine tkT 9 146 (.agg #[.slice fo 1 fc, .string (enc c), .slice ro 1 rc]) rfl rfl (by kernel_rfl) (fun _ _ _ _ _ h => h) (.inl ⟨by rfl, fun w' hSw => (by go_simp)⟩) (by assumption) ?_
                            try simp only [put9T, List.set]
                            refine tkT 10 147 (.agg #[.slice no 1 nc, .string ⟨#[]⟩, .int .i64 1]) rfl rfl (by kernel_rfl) (fun _ _ _ _ _ h => h) (.inl ⟨by rfl, fun w' hSw => (by go_simp)⟩) (by assumption) ?_
                            try simp only [put9T, List.set]
                            refine tkT 11 148 (.int .i64 0) rfl rfl (by kernel_rfl) (fun _ _ _ _ _ h => h) (.inl ⟨by rfl, fun w' hSw => (by go_simp)⟩) (by assumption) ?_
                            try simp only [put9T, List.set]
                            refine wpAnyH_ready (rs := [13]) (by kernel_rfl) (by simp) ?_
                            refine AllReadyH.cons rfl (fun K hK => ?_) AllReadyH.nil
                            rw [if_pos (by rfl)]
                            go_simp
                            have kb := (Below.refl _ W4).alloc (Nat.le_refl _) (.cells #[.slice none 0 0, .string ⟨#[]⟩, .int .i64 0] 63)
                            have hpt : wr.heap.size ≤ W4.heap.size := b0.size
                            have hne : pp ≠ W4.heap.size := Nat.ne_of_lt hP.lt
                            replace hP := hP.below kb hP.lt
                            replace hN := hN.keepL (cells_keepL kb (Nat.le_refl _))
                            replace hI := hI.keepL (cells_keepL kb (Nat.le_refl _))
                            have hT := TPB.new W4 (.slice none 0 0) (.string ⟨#[]⟩) (.int .i64 0)
                            replace b0 := b0.trans (kb.mono b0.size)
                            clear kb
                            refine hK.out _ _ (HMK.out _ b0) (fun hS' => ?_)
                            clear hK
                            try simp only [put9T, List.set]
                            generalize W4.heap.size = pt at hT hpt hne ⊢
                            generalize World.alloc W4 _ = W5 at hP hN hI hT b0 hS' ⊢
                            refine wpAnyH_ready (rs := [14]) (by kernel_rfl) (by simp) ?_
                            refine AllReadyH.cons rfl (fun K hK => ?_) AllReadyH.nil
                            rw [if_pos (by rfl)]
                            have z0 := hP.c0
                            have z1 := hP.c1
                            have z2 := hP.c2
                            have z3 := hP.f 0
                            have z4 := hP.f 1
                            have z5 := hP.f 2
                            go_simp
                            have e := fun j hj => put3_other W5 pp (.slice fo 1 fc) (.string (enc c)) (.slice ro 1 rc) j hj
                            replace hN := hN.heap (fun b off he => e b (hN.ne hP hnz b off he))
                            replace hI := hI.heap (fun b off he => e b (hI.ne (by simp) hP hiz b off he))
                            replace hT : TPB _ pt _ _ _ := (e pt (Ne.symm hne)).trans hT
                            replace b0 := ((b0.setCell (p := ⟨pp, 0, none⟩) hpp (.slice fo 1 fc)).setCell (p := ⟨pp, 1, none⟩) hpp (.string (enc c))).setCell (p := ⟨pp, 2, none⟩) hpp (.slice ro 1 rc)
                            replace hP := hP.put (.slice fo 1 fc) (.string (enc c)) (.slice ro 1 rc)
                            refine hK.out _ _ (HMK.out _ b0) (fun hS' => ?_)
                            clear hK e z0 z1 z2 z3 z4 z5
                            try simp only [put9T, List.set]
                            generalize World.setCell (World.setCell (World.setCell W5 _ _) _ _) _ _ = W6 at hP hT hN hI b0 hS' ⊢
                            refine wpAnyH_ready (rs := [15]) (by kernel_rfl) (by simp) ?_
                            refine AllReadyH.cons rfl (fun K hK => ?_) AllReadyH.nil
                            rw [if_pos (by rfl)]
                            have z0 := hT.c0
                            have z1 := hT.c1
                            have z2 := hT.c2
                            have z3 := hT.f 0
                            have z4 := hT.f 1
                            have z5 := hT.f 2
                            go_simp
                            have e := fun j hj => put3_other W6 pt (.slice no 1 nc) (.string ⟨#[]⟩) (.int .i64 1) j hj
                            replace hN := hN.heap (fun b off he => e b (hN.ne hT hnt b off he))
                            replace hI := hI.heap (fun b off he => e b (hI.ne (by simp) hT hit b off he))
                            replace hP : PFB _ pp _ _ _ := (e pp hne).trans hP
                            replace b0 := ((b0.setCell (p := ⟨pt, 0, none⟩) hpt (.slice no 1 nc)).setCell (p := ⟨pt, 1, none⟩) hpt (.string ⟨#[]⟩)).setCell (p := ⟨pt, 2, none⟩) hpt (.int .i64 1)
                            replace hT := hT.put (v0 := .slice no 1 nc) (v1 := .string ⟨#[]⟩) (v2 := .int .i64 1)
                            refine hK.out _ _ (HMK.out _ b0) (fun hS' => ?_)
                            clear hK e z0 z1 z2 z3 z4 z5
                            try simp only [put9T, List.set]
                            generalize World.setCell (World.setCell (World.setCell W6 _ _) _ _) _ _ = W7 at hP hT hN hI b0 hS' ⊢
                            refine tkT 16 25 (.int .i64 0) rfl rfl (by kernel_rfl) (fun _ _ _ _ _ h => h) (.inl ⟨by rfl, fun w' hSw => (by go_simp)⟩) (by assumption) ?_
                            try simp only [put9T, List.set]
                            refine wpAnyH_done (by kernel_rfl) ?_ _
                            clear hS'
                            go_wp2_with fail
                            go_meet
                            exact ⟨pp, fo, fc, ro, rc, rfl, rfl, hP, hN, hI, b0⟩
                          · rw [if_pos (by rfl)]
                            go_simp
                            have kb := (Below.refl _ W3).alloc (Nat.le_refl _) (.cells #[.slice none 0 0, .string ⟨#[]⟩, .int .i64 0] 63)
                            have hpt : wr.heap.size ≤ W3.heap.size := b0.size
                            have hne : pp ≠ W3.heap.size := Nat.ne_of_lt hP.lt
                            replace hX := hX.below kb hX.lt
                            replace hP := hP.below kb hP.lt
                            have hT := TPB.new W3 (.slice none 0 0) (.string ⟨#[]⟩) (.int .i64 0)
                            replace b0 := b0.trans (kb.mono b0.size)
                            clear kb
                            refine hK.out _ _ (HMK.out _ b0) (fun hS' => ?_)
                            clear hK
                            try simp only [put9T, List.set]
                            generalize W3.heap.size = pt at hT hpt hne ⊢
                            generalize World.alloc W3 _ = W4 at hX hP hT b0 hS' ⊢
                            refine wpAnyH_ready (rs := [7]) (by kernel_rfl) (by simp) ?_
                            refine AllReadyH.cons rfl (fun K hK => ?_) AllReadyH.nil
                            rw [if_pos (by rfl)]
                            go_simp
                            go_at_call 11
                            refine (HC.out _ _ _ b0 hX.ns).mono ?_; rintro e W5 ⟨fo, fc, ro, rc, no, nc, rfl, hN, hI, kb⟩
                            clear hX
                            replace hP := hP.below kb hP.lt
                            replace hT := hT.below kb hT.lt
                            replace b0 := b0.trans (kb.mono b0.size)
                            clear kb
                            refine hK.out _ _ (HMK.out _ b0) (fun hS' => ?_)
                            clear hK
                            try simp only [put9T, List.set]
                            refine tkT 8 137 (.tuple #[.agg #[.slice fo 1 fc, .string (enc c), .slice ro 1 rc], .agg #[.slice no 1 nc, .string ⟨#[]⟩, .int .i64 1], .int .i64 0]) rfl rfl (by kernel_rfl) (fun _ _ _ _ _ h => h) (.inl ⟨by rfl, fun w' hSw => (by go_simp)⟩) (by assumption) ?_
                            try simp only [put9T, List.set]
                            refine tkT 9 146 (.agg #[.slice fo 1 fc, .string (enc c), .slice ro 1 rc]) rfl rfl (by kernel_rfl) (fun _ _ _ _ _ h => h) (.inl ⟨by rfl, fun w' hSw => (by go_simp)⟩) (by assumption) ?_
                            try simp only [put9T, List.set]
                            refine tkT 10 147 (.agg #[.slice no 1 nc, .string ⟨#[]⟩, .int .i64 1]) rfl rfl (by kernel_rfl) (fun _ _ _ _ _ h => h) (.inl ⟨by rfl, fun w' hSw => (by go_simp)⟩) (by assumption) ?_
                            try simp only [put9T, List.set]
                            refine tkT 11 148 (.int .i64 0) rfl rfl (by kernel_rfl) (fun _ _ _ _ _ h => h) (.inl ⟨by rfl, fun w' hSw => (by go_simp)⟩) (by assumption) ?_
                            try simp only [put9T, List.set]
                            refine wpAnyH_ready (rs := [14]) (by kernel_rfl) (by simp) ?_
                            refine AllReadyH.cons rfl (fun K hK => ?_) AllReadyH.nil
                            rw [if_pos (by rfl)]
                            have z0 := hP.c0
                            have z1 := hP.c1
                            have z2 := hP.c2
                            have z3 := hP.f 0
                            have z4 := hP.f 1
                            have z5 := hP.f 2
                            go_simp
                            have e := fun j hj => put3_other W5 pp (.slice fo 1 fc) (.string (enc c)) (.slice ro 1 rc) j hj
                            replace hN := hN.heap (fun b off he => e b (hN.ne hP hnz b off he))
                            replace hI := hI.heap (fun b off he => e b (hI.ne (by simp) hP hiz b off he))
                            replace hT : TPB _ pt _ _ _ := (e pt (Ne.symm hne)).trans hT
                            replace b0 := ((b0.setCell (p := ⟨pp, 0, none⟩) hpp (.slice fo 1 fc)).setCell (p := ⟨pp, 1, none⟩) hpp (.string (enc c))).setCell (p := ⟨pp, 2, none⟩) hpp (.slice ro 1 rc)
                            replace hP := hP.put (.slice fo 1 fc) (.string (enc c)) (.slice ro 1 rc)
                            refine hK.out _ _ (HMK.out _ b0) (fun hS' => ?_)
                            clear hK e z0 z1 z2 z3 z4 z5
                            try simp only [put9T, List.set]
                            generalize World.setCell (World.setCell (World.setCell W5 _ _) _ _) _ _ = W6 at hP hT hN hI b0 hS' ⊢
                            refine wpAnyH_ready (rs := [15]) (by kernel_rfl) (by simp) ?_
                            refine AllReadyH.cons rfl (fun K hK => ?_) AllReadyH.nil
                            rw [if_pos (by rfl)]
                            have z0 := hT.c0
                            have z1 := hT.c1
                            have z2 := hT.c2
                            have z3 := hT.f 0
                            have z4 := hT.f 1
                            have z5 := hT.f 2
                            go_simp
                            have e := fun j hj => put3_other W6 pt (.slice no 1 nc) (.string ⟨#[]⟩) (.int .i64 1) j hj
                            replace hN := hN.heap (fun b off he => e b (hN.ne hT hnt b off he))
                            replace hI := hI.heap (fun b off he => e b (hI.ne (by simp) hT hit b off he))
                            replace hP : PFB _ pp _ _ _ := (e pp hne).trans hP
                            replace b0 := ((b0.setCell (p := ⟨pt, 0, none⟩) hpt (.slice no 1 nc)).setCell (p := ⟨pt, 1, none⟩) hpt (.string ⟨#[]⟩)).setCell (p := ⟨pt, 2, none⟩) hpt (.int .i64 1)
                            replace hT := hT.put (v0 := .slice no 1 nc) (v1 := .string ⟨#[]⟩) (v2 := .int .i64 1)
                            refine hK.out _ _ (HMK.out _ b0) (fun hS' => ?_)
                            clear hK e z0 z1 z2 z3 z4 z5
                            try simp only [put9T, List.set]
                            generalize World.setCell (World.setCell (World.setCell W6 _ _) _ _) _ _ = W7 at hP hT hN hI b0 hS' ⊢
                            refine tkT 16 25 (.int .i64 0) rfl rfl (by kernel_rfl) (fun _ _ _ _ _ h => h) (.inl ⟨by rfl, fun w' hSw => (by go_simp)⟩) (by assumption) ?_
                            try simp only [put9T, List.set]
                            refine wpAnyH_done (by kernel_rfl) ?_ _
                            clear hS'
                            go_wp2_with fail
                            go_meet
                            exact ⟨pp, fo, fc, ro, rc, rfl, rfl, hP, hN, hI, b0⟩
                        · rw [if_pos (by rfl)]
                          go_simp
                          have kb := (Below.refl _ W2).alloc (Nat.le_refl _) (.cells #[.slice none 0 0, .string ⟨#[]⟩, .int .i64 0] 63)
                          have hpt : wr.heap.size ≤ W2.heap.size := b0.size
                          replace hX := hX.below kb hX.lt
                          have hT := TPB.new W2 (.slice none 0 0) (.string ⟨#[]⟩) (.int .i64 0)
                          replace b0 := b0.trans (kb.mono b0.size)
                          clear kb
                          refine hK.out _ _ (HMK.out _ b0) (fun hS' => ?_)
                          clear hK
                          try simp only [put9T, List.set]
                          generalize W2.heap.size = pt at hT hpt ⊢
                          generalize World.alloc W2 _ = W3 at hX hT b0 hS' ⊢
                          refine wpAnyH_ready (rs := [7, 12]) (by kernel_rfl) (by simp) ?_
                          refine AllReadyH.cons rfl (fun K hK => ?_) (AllReadyH.cons rfl (fun K hK => ?_) AllReadyH.nil)
                          · rw [if_pos (by rfl)]
                            go_simp
                            go_at_call 11
                            refine (HC.out _ _ _ b0 hX.ns).mono ?_; rintro e W4 ⟨fo, fc, ro, rc, no, nc, rfl, hN, hI, kb⟩
                            clear hX
                            replace hT := hT.below kb hT.lt
                            replace b0 := b0.trans (kb.mono b0.size)
                            clear kb
                            refine hK.out _ _ (HMK.out _ b0) (fun hS' => ?_)
                            clear hK
                            try simp only [put9T, List.set]
                            refine tkT 8 137 (.tuple #[.agg #[.slice fo 1 fc, .string (enc c), .slice ro 1 rc], .agg #[.slice no 1 nc, .string ⟨#[]⟩, .int .i64 1], .int .i64 0]) rfl rfl (by kernel_rfl) (fun _ _ _ _ _ h => h) (.inl ⟨by rfl, fun w' hSw => (by go_simp)⟩) (by assumption) ?_
                            try simp only [put9T, List.set]
                            refine tkT 9 146 (.agg #[.slice fo 1 fc, .string (enc c), .slice ro 1 rc]) rfl rfl (by kernel_rfl) (fun _ _ _ _ _ h => h) (.inl ⟨by rfl, fun w' hSw => (by go_simp)⟩) (by assumption) ?_
                            try simp only [put9T, List.set]
                            refine tkT 10 147 (.agg #[.slice no 1 nc, .string ⟨#[]⟩, .int .i64 1]) rfl rfl (by kernel_rfl) (fun _ _ _ _ _ h => h) (.inl ⟨by rfl, fun w' hSw => (by go_simp)⟩) (by assumption) ?_
                            try simp only [put9T, List.set]
                            refine tkT 11 148 (.int .i64 0) rfl rfl (by kernel_rfl) (fun _ _ _ _ _ h => h) (.inl ⟨by rfl, fun w' hSw => (by go_simp)⟩) (by assumption) ?_
                            try simp only [put9T, List.set]
                            refine wpAnyH_ready (rs := [12]) (by kernel_rfl) (by simp) ?_
                            refine AllReadyH.cons rfl (fun K hK => ?_) AllReadyH.nil
                            rw [if_pos (by rfl)]
                            go_simp
                            have kb := (Below.refl _ W4).alloc (Nat.le_refl _) (.cells #[.slice none 0 0, .string ⟨#[]⟩, .slice none 0 0] 61)
                            have hpp : wr.heap.size ≤ W4.heap.size := b0.size
                            have hne : W4.heap.size ≠ pt := Nat.ne_of_gt hT.lt
                            replace hT := hT.below kb hT.lt
                            replace hN := hN.keepL (cells_keepL kb (Nat.le_refl _))
                            replace hI := hI.keepL (cells_keepL kb (Nat.le_refl _))
                            have hP := PFB.new W4 (.slice none 0 0) (.string ⟨#[]⟩) (.slice none 0 0)
                            replace b0 := b0.trans (kb.mono b0.size)
                            clear kb
                            refine hK.out _ _ (HMK.out _ b0) (fun hS' => ?_)
                            clear hK
                            try simp only [put9T, List.set]
                            generalize W4.heap.size = pp at hP hpp hne ⊢
                            generalize World.alloc W4 _ = W5 at hT hN hI hP b0 hS' ⊢
                            refine wpAnyH_ready (rs := [14]) (by kernel_rfl) (by simp) ?_
                            refine AllReadyH.cons rfl (fun K hK => ?_) AllReadyH.nil
                            rw [if_pos (by rfl)]
                            have z0 := hP.c0
                            have z1 := hP.c1
                            have z2 := hP.c2
                            have z3 := hP.f 0
                            have z4 := hP.f 1
                            have z5 := hP.f 2
                            go_simp
                            have e := fun j hj => put3_other W5 pp (.slice fo 1 fc) (.string (enc c)) (.slice ro 1 rc) j hj
                            replace hN := hN.heap (fun b off he => e b (hN.ne hP hnz b off he))
                            replace hI := hI.heap (fun b off he => e b (hI.ne (by simp) hP hiz b off he))
                            replace hT : TPB _ pt _ _ _ := (e pt (Ne.symm hne)).trans hT
                            replace b0 := ((b0.setCell (p := ⟨pp, 0, none⟩) hpp (.slice fo 1 fc)).setCell (p := ⟨pp, 1, none⟩) hpp (.string (enc c))).setCell (p := ⟨pp, 2, none⟩) hpp (.slice ro 1 rc)
                            replace hP := hP.put (.slice fo 1 fc) (.string (enc c)) (.slice ro 1 rc)
                            refine hK.out _ _ (HMK.out _ b0) (fun hS' => ?_)
                            clear hK e z0 z1 z2 z3 z4 z5
                            try simp only [put9T, List.set]
                            generalize World.setCell (World.setCell (World.setCell W5 _ _) _ _) _ _ = W6 at hP hT hN hI b0 hS' ⊢
                            refine wpAnyH_ready (rs := [15]) (by kernel_rfl) (by simp) ?_
                            refine AllReadyH.cons rfl (fun K hK => ?_) AllReadyH.nil
                            rw [if_pos (by rfl)]
                            have z0 := hT.c0
                            have z1 := hT.c1
                            have z2 := hT.c2
                            have z3 := hT.f 0
                            have z4 := hT.f 1
                            have z5 := hT.f 2
                            go_simp
                            have e := fun j hj => put3_other W6 pt (.slice no 1 nc) (.string ⟨#[]⟩) (.int .i64 1) j hj
                            replace hN := hN.heap (fun b off he => e b (hN.ne hT hnt b off he))
                            replace hI := hI.heap (fun b off he => e b (hI.ne (by simp) hT hit b off he))
                            replace hP : PFB _ pp _ _ _ := (e pp hne).trans hP
                            replace b0 := ((b0.setCell (p := ⟨pt, 0, none⟩) hpt (.slice no 1 nc)).setCell (p := ⟨pt, 1, none⟩) hpt (.string ⟨#[]⟩)).setCell (p := ⟨pt, 2, none⟩) hpt (.int .i64 1)
                            replace hT := hT.put (v0 := .slice no 1 nc) (v1 := .string ⟨#[]⟩) (v2 := .int .i64 1)
                            refine hK.out _ _ (HMK.out _ b0) (fun hS' => ?_)
                            clear hK e z0 z1 z2 z3 z4 z5
                            try simp only [put9T, List.set]
                            generalize World.setCell (World.setCell (World.setCell W6 _ _) _ _) _ _ = W7 at hP hT hN hI b0 hS' ⊢
                            refine tkT 16 25 (.int .i64 0) rfl rfl (by kernel_rfl) (fun _ _ _ _ _ h => h) (.inl ⟨by rfl, fun w' hSw => (by go_simp)⟩) (by assumption) ?_
                            try simp only [put9T, List.set]
                            refine wpAnyH_done (by kernel_rfl) ?_ _
                            clear hS'
                            go_wp2_with fail
                            go_meet
                            exact ⟨pp, fo, fc, ro, rc, rfl, rfl, hP, hN, hI, b0⟩
                          · rw [if_pos (by rfl)]
                            go_simp
                            have kb := (Below.refl _ W3).alloc (Nat.le_refl _) (.cells #[.slice none 0 0, .string ⟨#[]⟩, .slice none 0 0] 61)
                            have hpp : wr.heap.size ≤ W3.heap.size := b0.size
                            have hne : W3.heap.size ≠ pt := Nat.ne_of_gt hT.lt
                            replace hX := hX.below kb hX.lt
                            replace hT := hT.below kb hT.lt
                            have hP := PFB.new W3 (.slice none 0 0) (.string ⟨#[]⟩) (.slice none 0 0)
                            replace b0 := b0.trans (kb.mono b0.size)
                            clear kb
                            refine hK.out _ _ (HMK.out _ b0) (fun hS' => ?_)
                            clear hK
                            try simp only [put9T, List.set]
                            generalize W3.heap.size = pp at hP hpp hne ⊢
                            generalize World.alloc W3 _ = W4 at hX hT hP b0 hS' ⊢
                            refine wpAnyH_ready (rs := [7]) (by kernel_rfl) (by simp) ?_
                            refine AllReadyH.cons rfl (fun K hK => ?_) AllReadyH.nil
                            rw [if_pos (by rfl)]
                            go_simp
                            go_at_call 11
                            refine (HC.out _ _ _ b0 hX.ns).mono ?_; rintro e W5 ⟨fo, fc, ro, rc, no, nc, rfl, hN, hI, kb⟩
                            clear hX
                            replace hT := hT.below kb hT.lt
                            replace hP := hP.below kb hP.lt
                            replace b0 := b0.trans (kb.mono b0.size)
                            clear kb
                            refine hK.out _ _ (HMK.out _ b0) (fun hS' => ?_)
                            clear hK
                            try simp only [put9T, List.set]
                            refine tkT 8 137 (.tuple #[.agg #[.slice fo 1 fc, .string (enc c), .slice ro 1 rc], .agg #[.slice no 1 nc, .string ⟨#[]⟩, .int .i64 1], .int .i64 0]) rfl rfl (by kernel_rfl) (fun _ _ _ _ _ h => h) (.inl ⟨by rfl, fun w' hSw => (by go_simp)⟩) (by assumption) ?_
                            try simp only [put9T, List.set]
                            refine tkT 9 146 (.agg #[.slice fo 1 fc, .string (enc c), .slice ro 1 rc]) rfl rfl (by kernel_rfl) (fun _ _ _ _ _ h => h) (.inl ⟨by rfl, fun w' hSw => (by go_simp)⟩) (by assumption) ?_
                            try simp only [put9T, List.set]
                            refine tkT 10 147 (.agg #[.slice no 1 nc, .string ⟨#[]⟩, .int .i64 1]) rfl rfl (by kernel_rfl) (fun _ _ _ _ _ h => h) (.inl ⟨by rfl, fun w' hSw => (by go_simp)⟩) (by assumption) ?_
                            try simp only [put9T, List.set]
                            refine tkT 11 148 (.int .i64 0) rfl rfl (by kernel_rfl) (fun _ _ _ _ _ h => h) (.inl ⟨by rfl, fun w' hSw => (by go_simp)⟩) (by assumption) ?_
                            try simp only [put9T, List.set]
                            refine wpAnyH_ready (rs := [14]) (by kernel_rfl) (by simp) ?_
                            refine AllReadyH.cons rfl (fun K hK => ?_) AllReadyH.nil
                            rw [if_pos (by rfl)]
                            have z0 := hP.c0
                            have z1 := hP.c1
                            have z2 := hP.c2
                            have z3 := hP.f 0
                            have z4 := hP.f 1
                            have z5 := hP.f 2
                            go_simp
                            have e := fun j hj => put3_other W5 pp (.slice fo 1 fc) (.string (enc c)) (.slice ro 1 rc) j hj
                            replace hN := hN.heap (fun b off he => e b (hN.ne hP hnz b off he))
                            replace hI := hI.heap (fun b off he => e b (hI.ne (by simp) hP hiz b off he))
                            replace hT : TPB _ pt _ _ _ := (e pt (Ne.symm hne)).trans hT
                            replace b0 := ((b0.setCell (p := ⟨pp, 0, none⟩) hpp (.slice fo 1 fc)).setCell (p := ⟨pp, 1, none⟩) hpp (.string (enc c))).setCell (p := ⟨pp, 2, none⟩) hpp (.slice ro 1 rc)
                            replace hP := hP.put (.slice fo 1 fc) (.string (enc c)) (.slice ro 1 rc)
                            refine hK.out _ _ (HMK.out _ b0) (fun hS' => ?_)
                            clear hK e z0 z1 z2 z3 z4 z5
                            try simp only [put9T, List.set]
                            generalize World.setCell (World.setCell (World.setCell W5 _ _) _ _) _ _ = W6 at hP hT hN hI b0 hS' ⊢
                            refine wpAnyH_ready (rs := [15]) (by kernel_rfl) (by simp) ?_
                            refine AllReadyH.cons rfl (fun K hK => ?_) AllReadyH.nil
                            rw [if_pos (by rfl)]
                            have z0 := hT.c0
                            have z1 := hT.c1
                            have z2 := hT.c2
                            have z3 := hT.f 0
                            have z4 := hT.f 1
                            have z5 := hT.f 2
                            go_simp
                            have e := fun j hj => put3_other W6 pt (.slice no 1 nc) (.string ⟨#[]⟩) (.int .i64 1) j hj
                            replace hN := hN.heap (fun b off he => e b (hN.ne hT hnt b off he))
                            replace hI := hI.heap (fun b off he => e b (hI.ne (by simp) hT hit b off he))
                            replace hP : PFB _ pp _ _ _ := (e pp hne).trans hP
                            replace b0 := ((b0.setCell (p := ⟨pt, 0, none⟩) hpt (.slice no 1 nc)).setCell (p := ⟨pt, 1, none⟩) hpt (.string ⟨#[]⟩)).setCell (p := ⟨pt, 2, none⟩) hpt (.int .i64 1)
                            replace hT := hT.put (v0 := .slice no 1 nc) (v1 := .string ⟨#[]⟩) (v2 := .int .i64 1)
                            refine hK.out _ _ (HMK.out _ b0) (fun hS' => ?_)
                            clear hK e z0 z1 z2 z3 z4 z5
                            try simp only [put9T, List.set]
                            generalize World.setCell (World.setCell (World.setCell W6 _ _) _ _) _ _ = W7 at hP hT hN hI b0 hS' ⊢
                            refine tkT 16 25 (.int .i64 0) rfl rfl (by kernel_rfl) (fun _ _ _ _ _ h => h) (.inl ⟨by rfl, fun w' hSw => (by go_simp)⟩) (by assumption) ?_
                            try simp only [put9T, List.set]
                            refine wpAnyH_done (by kernel_rfl) ?_ _
                            clear hS'
                            go_wp2_with fail
                            go_meet
                            exact ⟨pp, fo, fc, ro, rc, rfl, rfl, hP, hN, hI, b0⟩
                      · rw [if_pos (by rfl)]
                        go_simp
                        have kb := (Below.refl _ W1).alloc (Nat.le_refl _) (.cells #[.slice none 0 0, .string ⟨#[]⟩, .slice none 0 0] 61)
                        have hpp : wr.heap.size ≤ W1.heap.size := b0.size
                        have hP := PFB.new W1 (.slice none 0 0) (.string ⟨#[]⟩) (.slice none 0 0)
                        replace b0 := b0.trans (kb.mono b0.size)
                        clear kb
                        refine hK.out _ _ (HMK.out _ b0) (fun hS' => ?_)
                        clear hK
                        try simp only [put9T, List.set]
                        generalize W1.heap.size = pp at hP hpp ⊢
                        generalize World.alloc W1 _ = W2 at hP b0 hS' ⊢
                        refine wpAnyH_ready (rs := [5, 13]) (by kernel_rfl) (by simp) ?_
                        refine AllReadyH.cons rfl (fun K hK => ?_) (AllReadyH.cons rfl (fun K hK => ?_) AllReadyH.nil)
                        · rw [if_pos (by rfl)]
                          go_simp
                          have kb := (Below.refl _ W2).alloc (Nat.le_refl _) (.cells #[.string (enc k)] 25)
                          replace hP := hP.below kb hP.lt
                          have hX := SB.new W2 (enc k)
                          replace b0 := b0.trans (kb.mono b0.size)
                          clear kb
                          refine hK.out _ _ (HMK.out _ b0) (fun hS' => ?_)
                          clear hK
                          try simp only [put9T, List.set]
                          generalize W2.heap.size = px at hX ⊢
                          generalize World.alloc W2 _ = W3 at hP hX b0 hS' ⊢
                          refine tkT 6 144 (.agg #[.slice (some ⟨px, 0, none⟩) 1 1, .string ⟨#[]⟩, .int .i64 0]) rfl rfl (by kernel_rfl) (fun _ _ _ _ _ h => h) (.inl ⟨by rfl, fun w' hSw => (by go_simp)⟩) (by assumption) ?_
                          try simp only [put9T, List.set]
                          refine wpAnyH_ready (rs := [7, 13]) (by kernel_rfl) (by simp) ?_
                          refine AllReadyH.cons rfl (fun K hK => ?_) (AllReadyH.cons rfl (fun K hK => ?_) AllReadyH.nil)
                          · rw [if_pos (by rfl)]
                            go_simp
                            go_at_call 11
                            refine (HC.out _ _ _ b0 hX.ns).mono ?_; rintro e W4 ⟨fo, fc, ro, rc, no, nc, rfl, hN, hI, kb⟩
                            clear hX
                            replace hP := hP.below kb hP.lt
                            replace b0 := b0.trans (kb.mono b0.size)
                            clear kb
                            refine hK.out _ _ (HMK.out _ b0) (fun hS' => ?_)
                            clear hK
                            try simp only [put9T, List.set]
                            refine tkT 8 137 (.tuple #[.agg #[.slice fo 1 fc, .string (enc c), .slice ro 1 rc], .agg #[.slice no 1 nc, .string ⟨#[]⟩, .int .i64 1], .int .i64 0]) rfl rfl (by kernel_rfl) (fun _ _ _ _ _ h => h) (.inl ⟨by rfl, fun w' hSw => (by go_simp)⟩) (by assumption) ?_
                            try simp only [put9T, List.set]
                            refine tkT 9 146 (.agg #[.slice fo 1 fc, .string (enc c), .slice ro 1 rc]) rfl rfl (by kernel_rfl) (fun _ _ _ _ _ h => h) (.inl ⟨by rfl, fun w' hSw => (by go_simp)⟩) (by assumption) ?_
                            try simp only [put9T, List.set]
                            refine tkT 10 147 (.agg #[.slice no 1 nc, .string ⟨#[]⟩, .int .i64 1]) rfl rfl (by kernel_rfl) (fun _ _ _ _ _ h => h) (.inl ⟨by rfl, fun w' hSw => (by go_simp)⟩) (by assumption) ?_
                            try simp only [put9T, List.set]
                            refine tkT 11 148 (.int .i64 0) rfl rfl (by kernel_rfl) (fun _ _ _ _ _ h => h) (.inl ⟨by rfl, fun w' hSw => (by go_simp)⟩) (by assumption) ?_
                            try simp only [put9T, List.set]
                            refine wpAnyH_ready (rs := [13]) (by kernel_rfl) (by simp) ?_
                            refine AllReadyH.cons rfl (fun K hK => ?_) AllReadyH.nil
                            rw [if_pos (by rfl)]
                            go_simp
                            have kb := (Below.refl _ W4).alloc (Nat.le_refl _) (.cells #[.slice none 0 0, .string ⟨#[]⟩, .int .i64 0] 63)
                            have hpt : wr.heap.size ≤ W4.heap.size := b0.size
                            have hne : pp ≠ W4.heap.size := Nat.ne_of_lt hP.lt
                            replace hP := hP.below kb hP.lt
                            replace hN := hN.keepL (cells_keepL kb (Nat.le_refl _))
                            replace hI := hI.keepL (cells_keepL kb (Nat.le_refl _))
                            have hT := TPB.new W4 (.slice none 0 0) (.string ⟨#[]⟩) (.int .i64 0)
                            replace b0 := b0.trans (kb.mono b0.size)
                            clear kb
                            refine hK.out _ _ (HMK.out _ b0) (fun hS' => ?_)
                            clear hK
                            try simp only [put9T, List.set]
                            generalize W4.heap.size = pt at hT hpt hne ⊢
                            generalize World.alloc W4 _ = W5 at hP hN hI hT b0 hS' ⊢
                            refine wpAnyH_ready (rs := [14]) (by kernel_rfl) (by simp) ?_
                            refine AllReadyH.cons rfl (fun K hK => ?_) AllReadyH.nil
                            rw [if_pos (by rfl)]
                            have z0 := hP.c0
                            have z1 := hP.c1
                            have z2 := hP.c2
                            have z3 := hP.f 0
                            have z4 := hP.f 1
                            have z5 := hP.f 2
                            go_simp
                            have e := fun j hj => put3_other W5 pp (.slice fo 1 fc) (.string (enc c)) (.slice ro 1 rc) j hj
                            replace hN := hN.heap (fun b off he => e b (hN.ne hP hnz b off he))
                            replace hI := hI.heap (fun b off he => e b (hI.ne (by simp) hP hiz b off he))
                            replace hT : TPB _ pt _ _ _ := (e pt (Ne.symm hne)).trans hT
                            replace b0 := ((b0.setCell (p := ⟨pp, 0, none⟩) hpp (.slice fo 1 fc)).setCell (p := ⟨pp, 1, none⟩) hpp (.string (enc c))).setCell (p := ⟨pp, 2, none⟩) hpp (.slice ro 1 rc)
                            replace hP := hP.put (.slice fo 1 fc) (.string (enc c)) (.slice ro 1 rc)
                            refine hK.out _ _ (HMK.out _ b0) (fun hS' => ?_)
                            clear hK e z0 z1 z2 z3 z4 z5
                            try simp only [put9T, List.set]
                            generalize World.setCell (World.setCell (World.setCell W5 _ _) _ _) _ _ = W6 at hP hT hN hI b0 hS' ⊢
                            refine wpAnyH_ready (rs := [15]) (by kernel_rfl) (by simp) ?_
                            refine AllReadyH.cons rfl (fun K hK => ?_) AllReadyH.nil
                            rw [if_pos (by rfl)]
                            have z0 := hT.c0
                            have z1 := hT.c1
                            have z2 := hT.c2
                            have z3 := hT.f 0
                            have z4 := hT.f 1
                            have z5 := hT.f 2
                            go_simp
                            have e := fun j hj => put3_other W6 pt (.slice no 1 nc) (.string ⟨#[]⟩) (.int .i64 1) j hj
                            replace hN := hN.heap (fun b off he => e b (hN.ne hT hnt b off he))
                            replace hI := hI.heap (fun b off he => e b (hI.ne (by simp) hT hit b off he))
                            replace hP : PFB _ pp _ _ _ := (e pp hne).trans hP
                            replace b0 := ((b0.setCell (p := ⟨pt, 0, none⟩) hpt (.slice no 1 nc)).setCell (p := ⟨pt, 1, none⟩) hpt (.string ⟨#[]⟩)).setCell (p := ⟨pt, 2, none⟩) hpt (.int .i64 1)
                            replace hT := hT.put (v0 := .slice no 1 nc) (v1 := .string ⟨#[]⟩) (v2 := .int .i64 1)
                            refine hK.out _ _ (HMK.out _ b0) (fun hS' => ?_)
                            clear hK e z0 z1 z2 z3 z4 z5
                            try simp only [put9T, List.set]
                            generalize World.setCell (World.setCell (World.setCell W6 _ _) _ _) _ _ = W7 at hP hT hN hI b0 hS' ⊢
                            refine tkT 16 25 (.int .i64 0) rfl rfl (by kernel_rfl) (fun _ _ _ _ _ h => h) (.inl ⟨by rfl, fun w' hSw => (by go_simp)⟩) (by assumption) ?_
                            try simp only [put9T, List.set]
                            refine wpAnyH_done (by kernel_rfl) ?_ _
                            clear hS'
                            go_wp2_with fail
                            go_meet
                            exact ⟨pp, fo, fc, ro, rc, rfl, rfl, hP, hN, hI, b0⟩
                          · rw [if_pos (by rfl)]
                            go_simp
                            have kb := (Below.refl _ W3).alloc (Nat.le_refl _) (.cells #[.slice none 0 0, .string ⟨#[]⟩, .int .i64 0] 63)
                            have hpt : wr.heap.size ≤ W3.heap.size := b0.size
                            have hne : pp ≠ W3.heap.size := Nat.ne_of_lt hP.lt
                            replace hP := hP.below kb hP.lt
                            replace hX := hX.below kb hX.lt
                            have hT := TPB.new W3 (.slice none 0 0) (.string ⟨#[]⟩) (.int .i64 0)
                            replace b0 := b0.trans (kb.mono b0.size)
                            clear kb
                            refine hK.out _ _ (HMK.out _ b0) (fun hS' => ?_)
                            clear hK
                            try simp only [put9T, List.set]
                            generalize W3.heap.size = pt at hT hpt hne ⊢
                            generalize World.alloc W3 _ = W4 at hP hX hT b0 hS' ⊢
                            refine wpAnyH_ready (rs := [7]) (by kernel_rfl) (by simp) ?_
                            refine AllReadyH.cons rfl (fun K hK => ?_) AllReadyH.nil
                            rw [if_pos (by rfl)]
                            go_simp
                            go_at_call 11
                            refine (HC.out _ _ _ b0 hX.ns).mono ?_; rintro e W5 ⟨fo, fc, ro, rc, no, nc, rfl, hN, hI, kb⟩
                            clear hX
                            replace hP := hP.below kb hP.lt
                            replace hT := hT.below kb hT.lt
                            replace b0 := b0.trans (kb.mono b0.size)
                            clear kb
                            refine hK.out _ _ (HMK.out _ b0) (fun hS' => ?_)
                            clear hK
                            try simp only [put9T, List.set]
                            refine tkT 8 137 (.tuple #[.agg #[.slice fo 1 fc, .string (enc c), .slice ro 1 rc], .agg #[.slice no 1 nc, .string ⟨#[]⟩, .int .i64 1], .int .i64 0]) rfl rfl (by kernel_rfl) (fun _ _ _ _ _ h => h) (.inl ⟨by rfl, fun w' hSw => (by go_simp)⟩) (by assumption) ?_
                            try simp only [put9T, List.set]
                            refine tkT 9 146 (.agg #[.slice fo 1 fc, .string (enc c), .slice ro 1 rc]) rfl rfl (by kernel_rfl) (fun _ _ _ _ _ h => h) (.inl ⟨by rfl, fun w' hSw => (by go_simp)⟩) (by assumption) ?_
                            try simp only [put9T, List.set]
                            refine tkT 10 147 (.agg #[.slice no 1 nc, .string ⟨#[]⟩, .int .i64 1]) rfl rfl (by kernel_rfl) (fun _ _ _ _ _ h => h) (.inl ⟨by rfl, fun w' hSw => (by go_simp)⟩) (by assumption) ?_
                            try simp only [put9T, List.set]
                            refine tkT 11 148 (.int .i64 0) rfl rfl (by kernel_rfl) (fun _ _ _ _ _ h => h) (.inl ⟨by rfl, fun w' hSw => (by go_simp)⟩) (by assumption) ?_
                            try simp only [put9T, List.set]
                            refine wpAnyH_ready (rs := [14]) (by kernel_rfl) (by simp) ?_
                            refine AllReadyH.cons rfl (fun K hK => ?_) AllReadyH.nil
                            rw [if_pos (by rfl)]
                            have z0 := hP.c0
                            have z1 := hP.c1
                            have z2 := hP.c2
                            have z3 := hP.f 0
                            have z4 := hP.f 1
                            have z5 := hP.f 2
                            go_simp
                            have e := fun j hj => put3_other W5 pp (.slice fo 1 fc) (.string (enc c)) (.slice ro 1 rc) j hj
                            replace hN := hN.heap (fun b off he => e b (hN.ne hP hnz b off he))
                            replace hI := hI.heap (fun b off he => e b (hI.ne (by simp) hP hiz b off he))
                            replace hT : TPB _ pt _ _ _ := (e pt (Ne.symm hne)).trans hT
                            replace b0 := ((b0.setCell (p := ⟨pp, 0, none⟩) hpp (.slice fo 1 fc)).setCell (p := ⟨pp, 1, none⟩) hpp (.string (enc c))).setCell (p := ⟨pp, 2, none⟩) hpp (.slice ro 1 rc)
                            replace hP := hP.put (.slice fo 1 fc) (.string (enc c)) (.slice ro 1 rc)
                            refine hK.out _ _ (HMK.out _ b0) (fun hS' => ?_)
                            clear hK e z0 z1 z2 z3 z4 z5
                            try simp only [put9T, List.set]
                            generalize World.setCell (World.setCell (World.setCell W5 _ _) _ _) _ _ = W6 at hP hT hN hI b0 hS' ⊢
                            refine wpAnyH_ready (rs := [15]) (by kernel_rfl) (by simp) ?_
                            refine AllReadyH.cons rfl (fun K hK => ?_) AllReadyH.nil
                            rw [if_pos (by rfl)]
                            have z0 := hT.c0
                            have z1 := hT.c1
                            have z2 := hT.c2
                            have z3 := hT.f 0
                            have z4 := hT.f 1
                            have z5 := hT.f 2
                            go_simp
                            have e := fun j hj => put3_other W6 pt (.slice no 1 nc) (.string ⟨#[]⟩) (.int .i64 1) j hj
                            replace hN := hN.heap (fun b off he => e b (hN.ne hT hnt b off he))
                            replace hI := hI.heap (fun b off he => e b (hI.ne (by simp) hT hit b off he))
                            replace hP : PFB _ pp _ _ _ := (e pp hne).trans hP
                            replace b0 := ((b0.setCell (p := ⟨pt, 0, none⟩) hpt (.slice no 1 nc)).setCell (p := ⟨pt, 1, none⟩) hpt (.string ⟨#[]⟩)).setCell (p := ⟨pt, 2, none⟩) hpt (.int .i64 1)
                            replace hT := hT.put (v0 := .slice no 1 nc) (v1 := .string ⟨#[]⟩) (v2 := .int .i64 1)
                            refine hK.out _ _ (HMK.out _ b0) (fun hS' => ?_)
                            clear hK e z0 z1 z2 z3 z4 z5
                            try simp only [put9T, List.set]
                            generalize World.setCell (World.setCell (World.setCell W6 _ _) _ _) _ _ = W7 at hP hT hN hI b0 hS' ⊢
                            refine tkT 16 25 (.int .i64 0) rfl rfl (by kernel_rfl) (fun _ _ _ _ _ h => h) (.inl ⟨by rfl, fun w' hSw => (by go_simp)⟩) (by assumption) ?_
                            try simp only [put9T, List.set]
                            refine wpAnyH_done (by kernel_rfl) ?_ _
                            clear hS'
                            go_wp2_with fail
                            go_meet
                            exact ⟨pp, fo, fc, ro, rc, rfl, rfl, hP, hN, hI, b0⟩
                        · rw [if_pos (by rfl)]
                          go_simp
                          have kb := (Below.refl _ W2).alloc (Nat.le_refl _) (.cells #[.slice none 0 0, .string ⟨#[]⟩, .int .i64 0] 63)
                          have hpt : wr.heap.size ≤ W2.heap.size := b0.size
                          have hne : pp ≠ W2.heap.size := Nat.ne_of_lt hP.lt
                          replace hP := hP.below kb hP.lt
                          have hT := TPB.new W2 (.slice none 0 0) (.string ⟨#[]⟩) (.int .i64 0)
                          replace b0 := b0.trans (kb.mono b0.size)
                          clear kb
                          refine hK.out _ _ (HMK.out _ b0) (fun hS' => ?_)
                          clear hK
                          try simp only [put9T, List.set]
                          generalize W2.heap.size = pt at hT hpt hne ⊢
                          generalize World.alloc W2 _ = W3 at hP hT b0 hS' ⊢
                          refine wpAnyH_ready (rs := [5]) (by kernel_rfl) (by simp) ?_
                          refine AllReadyH.cons rfl (fun K hK => ?_) AllReadyH.nil
                          rw [if_pos (by rfl)]
                          go_simp
                          have kb := (Below.refl _ W3).alloc (Nat.le_refl _) (.cells #[.string (enc k)] 25)
                          replace hP := hP.below kb hP.lt
                          replace hT := hT.below kb hT.lt
                          have hX := SB.new W3 (enc k)
                          replace b0 := b0.trans (kb.mono b0.size)
                          clear kb
                          refine hK.out _ _ (HMK.out _ b0) (fun hS' => ?_)
                          clear hK
                          try simp only [put9T, List.set]
                          generalize W3.heap.size = px at hX ⊢
                          generalize World.alloc W3 _ = W4 at hP hT hX b0 hS' ⊢
                          refine tkT 6 144 (.agg #[.slice (some ⟨px, 0, none⟩) 1 1, .string ⟨#[]⟩, .int .i64 0]) rfl rfl (by kernel_rfl) (fun _ _ _ _ _ h => h) (.inl ⟨by rfl, fun w' hSw => (by go_simp)⟩) (by assumption) ?_
                          try simp only [put9T, List.set]
                          refine wpAnyH_ready (rs := [7]) (by kernel_rfl) (by simp) ?_
                          refine AllReadyH.cons rfl (fun K hK => ?_) AllReadyH.nil
                          rw [if_pos (by rfl)]
                          go_simp
                          go_at_call 11
                          refine (HC.out _ _ _ b0 hX.ns).mono ?_; rintro e W5 ⟨fo, fc, ro, rc, no, nc, rfl, hN, hI, kb⟩
                          clear hX
                          replace hP := hP.below kb hP.lt
                          replace hT := hT.below kb hT.lt
                          replace b0 := b0.trans (kb.mono b0.size)
                          clear kb
                          refine hK.out _ _ (HMK.out _ b0) (fun hS' => ?_)
                          clear hK
                          try simp only [put9T, List.set]
                          refine tkT 8 137 (.tuple #[.agg #[.slice fo 1 fc, .string (enc c), .slice ro 1 rc], .agg #[.slice no 1 nc, .string ⟨#[]⟩, .int .i64 1], .int .i64 0]) rfl rfl (by kernel_rfl) (fun _ _ _ _ _ h => h) (.inl ⟨by rfl, fun w' hSw => (by go_simp)⟩) (by assumption) ?_
                          try simp only [put9T, List.set]
                          refine tkT 9 146 (.agg #[.slice fo 1 fc, .string (enc c), .slice ro 1 rc]) rfl rfl (by kernel_rfl) (fun _ _ _ _ _ h => h) (.inl ⟨by rfl, fun w' hSw => (by go_simp)⟩) (by assumption) ?_
                          try simp only [put9T, List.set]
                          refine tkT 10 147 (.agg #[.slice no 1 nc, .string ⟨#[]⟩, .int .i64 1]) rfl rfl (by kernel_rfl) (fun _ _ _ _ _ h => h) (.inl ⟨by rfl, fun w' hSw => (by go_simp)⟩) (by assumption) ?_
                          try simp only [put9T, List.set]
                          refine tkT 11 148 (.int .i64 0) rfl rfl (by kernel_rfl) (fun _ _ _ _ _ h => h) (.inl ⟨by rfl, fun w' hSw => (by go_simp)⟩) (by assumption) ?_
                          try simp only [put9T, List.set]
                          refine wpAnyH_ready (rs := [14]) (by kernel_rfl) (by simp) ?_
                          refine AllReadyH.cons rfl (fun K hK => ?_) AllReadyH.nil
                          rw [if_pos (by rfl)]
                          have z0 := hP.c0
                          have z1 := hP.c1
                          have z2 := hP.c2
                          have z3 := hP.f 0
                          have z4 := hP.f 1
                          have z5 := hP.f 2
                          go_simp
                          have e := fun j hj => put3_other W5 pp (.slice fo 1 fc) (.string (enc c)) (.slice ro 1 rc) j hj
                          replace hN := hN.heap (fun b off he => e b (hN.ne hP hnz b off he))
                          replace hI := hI.heap (fun b off he => e b (hI.ne (by simp) hP hiz b off he))
                          replace hT : TPB _ pt _ _ _ := (e pt (Ne.symm hne)).trans hT
                          replace b0 := ((b0.setCell (p := ⟨pp, 0, none⟩) hpp (.slice fo 1 fc)).setCell (p := ⟨pp, 1, none⟩) hpp (.string (enc c))).setCell (p := ⟨pp, 2, none⟩) hpp (.slice ro 1 rc)
                          replace hP := hP.put (.slice fo 1 fc) (.string (enc c)) (.slice ro 1 rc)
                          refine hK.out _ _ (HMK.out _ b0) (fun hS' => ?_)
                          clear hK e z0 z1 z2 z3 z4 z5
                          try simp only [put9T, List.set]
                          generalize World.setCell (World.setCell (World.setCell W5 _ _) _ _) _ _ = W6 at hP hT hN hI b0 hS' ⊢
                          refine wpAnyH_ready (rs := [15]) (by kernel_rfl) (by simp) ?_
                          refine AllReadyH.cons rfl (fun K hK => ?_) AllReadyH.nil
                          rw [if_pos (by rfl)]
                          have z0 := hT.c0
                          have z1 := hT.c1
                          have z2 := hT.c2
                          have z3 := hT.f 0
                          have z4 := hT.f 1
                          have z5 := hT.f 2
                          go_simp
                          have e := fun j hj => put3_other W6 pt (.slice no 1 nc) (.string ⟨#[]⟩) (.int .i64 1) j hj
                          replace hN := hN.heap (fun b off he => e b (hN.ne hT hnt b off he))
                          replace hI := hI.heap (fun b off he => e b (hI.ne (by simp) hT hit b off he))
                          replace hP : PFB _ pp _ _ _ := (e pp hne).trans hP
                          replace b0 := ((b0.setCell (p := ⟨pt, 0, none⟩) hpt (.slice no 1 nc)).setCell (p := ⟨pt, 1, none⟩) hpt (.string ⟨#[]⟩)).setCell (p := ⟨pt, 2, none⟩) hpt (.int .i64 1)
                          replace hT := hT.put (v0 := .slice no 1 nc) (v1 := .string ⟨#[]⟩) (v2 := .int .i64 1)
                          refine hK.out _ _ (HMK.out _ b0) (fun hS' => ?_)
                          clear hK e z0 z1 z2 z3 z4 z5
                          try simp only [put9T, List.set]
                          generalize World.setCell (World.setCell (World.setCell W6 _ _) _ _) _ _ = W7 at hP hT hN hI b0 hS' ⊢
                          refine tkT 16 25 (.int .i64 0) rfl rfl (by kernel_rfl) (fun _ _ _ _ _ h => h) (.inl ⟨by rfl, fun w' hSw => (by go_simp)⟩) (by assumption) ?_
                          try simp only [put9T, List.set]
                          refine wpAnyH_done (by kernel_rfl) ?_ _
                          clear hS'
                          go_wp2_with fail
                          go_meet
                          exact ⟨pp, fo, fc, ro, rc, rfl, rfl, hP, hN, hI, b0⟩
                      · rw [if_pos (by rfl)]
                        go_simp
                        have kb := (Below.refl _ W1).alloc (Nat.le_refl _) (.cells #[.slice none 0 0, .string ⟨#[]⟩, .int .i64 0] 63)
                        have hpt : wr.heap.size ≤ W1.heap.size := b0.size
                        have hT := TPB.new W1 (.slice none 0 0) (.string ⟨#[]⟩) (.int .i64 0)
                        replace b0 := b0.trans (kb.mono b0.size)
                        clear kb
                        refine hK.out _ _ (HMK.out _ b0) (fun hS' => ?_)
                        clear hK
                        try simp only [put9T, List.set]
                        generalize W1.heap.size = pt at hT hpt ⊢
                        generalize World.alloc W1 _ = W2 at hT b0 hS' ⊢
                        refine wpAnyH_ready (rs := [5, 12]) (by kernel_rfl) (by simp) ?_
                        refine AllReadyH.cons rfl (fun K hK => ?_) (AllReadyH.cons rfl (fun K hK => ?_) AllReadyH.nil)
                        · rw [if_pos (by rfl)]
                          go_simp
                          have kb := (Below.refl _ W2).alloc (Nat.le_refl _) (.cells #[.string (enc k)] 25)
                          replace hT := hT.below kb hT.lt
                          have hX := SB.new W2 (enc k)
                          replace b0 := b0.trans (kb.mono b0.size)
                          clear kb
                          refine hK.out _ _ (HMK.out _ b0) (fun hS' => ?_)
                          clear hK
                          try simp only [put9T, List.set]
                          generalize W2.heap.size = px at hX ⊢
                          generalize World.alloc W2 _ = W3 at hT hX b0 hS' ⊢
                          refine tkT 6 144 (.agg #[.slice (some ⟨px, 0, none⟩) 1 1, .string ⟨#[]⟩, .int .i64 0]) rfl rfl (by kernel_rfl) (fun _ _ _ _ _ h => h) (.inl ⟨by rfl, fun w' hSw => (by go_simp)⟩) (by assumption) ?_
                          try simp only [put9T, List.set]
                          refine wpAnyH_ready (rs := [7, 12]) (by kernel_rfl) (by simp) ?_
                          refine AllReadyH.cons rfl (fun K hK => ?_) (AllReadyH.cons rfl (fun K hK => ?_) AllReadyH.nil)
                          · rw [if_pos (by rfl)]
                            go_simp
                            go_at_call 11
                            refine (HC.out _ _ _ b0 hX.ns).mono ?_; rintro e W4 ⟨fo, fc, ro, rc, no, nc, rfl, hN, hI, kb⟩
                            clear hX
                            replace hT := hT.below kb hT.lt
                            replace b0 := b0.trans (kb.mono b0.size)
                            clear kb
                            refine hK.out _ _ (HMK.out _ b0) (fun hS' => ?_)
                            clear hK
                            try simp only [put9T, List.set]
                            refine tkT 8 137 (.tuple #[.agg #[.slice fo 1 fc, .string (enc c), .slice ro 1 rc], .agg #[.slice no 1 nc, .string ⟨#[]⟩, .int .i64 1], .int .i64 0]) rfl rfl (by kernel_rfl) (fun _ _ _ _ _ h => h) (.inl ⟨by rfl, fun w' hSw => (by go_simp)⟩) (by assumption) ?_
                            try simp only [put9T, List.set]
                            refine tkT 9 146 (.agg #[.slice fo 1 fc, .string (enc c), .slice ro 1 rc]) rfl rfl (by kernel_rfl) (fun _ _ _ _ _ h => h) (.inl ⟨by rfl, fun w' hSw => (by go_simp)⟩) (by assumption) ?_
                            try simp only [put9T, List.set]
                            refine tkT 10 147 (.agg #[.slice no 1 nc, .string ⟨#[]⟩, .int .i64 1]) rfl rfl (by kernel_rfl) (fun _ _ _ _ _ h => h) (.inl ⟨by rfl, fun w' hSw => (by go_simp)⟩) (by assumption) ?_
                            try simp only [put9T, List.set]
                            refine tkT 11 148 (.int .i64 0) rfl rfl (by kernel_rfl) (fun _ _ _ _ _ h => h) (.inl ⟨by rfl, fun w' hSw => (by go_simp)⟩) (by assumption) ?_
                            try simp only [put9T, List.set]
                            refine wpAnyH_ready (rs := [12]) (by kernel_rfl) (by simp) ?_
                            refine AllReadyH.cons rfl (fun K hK => ?_) AllReadyH.nil
                            rw [if_pos (by rfl)]
                            go_simp
                            have kb := (Below.refl _ W4).alloc (Nat.le_refl _) (.cells #[.slice none 0 0, .string ⟨#[]⟩, .slice none 0 0] 61)
                            have hpp : wr.heap.size ≤ W4.heap.size := b0.size
                            have hne : W4.heap.size ≠ pt := Nat.ne_of_gt hT.lt
                            replace hT := hT.below kb hT.lt
                            replace hN := hN.keepL (cells_keepL kb (Nat.le_refl _))
                            replace hI := hI.keepL (cells_keepL kb (Nat.le_refl _))
                            have hP := PFB.new W4 (.slice none 0 0) (.string ⟨#[]⟩) (.slice none 0 0)
                            replace b0 := b0.trans (kb.mono b0.size)
                            clear kb
                            refine hK.out _ _ (HMK.out _ b0) (fun hS' => ?_)
                            clear hK
                            try simp only [put9T, List.set]
                            generalize W4.heap.size = pp at hP hpp hne ⊢
                            generalize World.alloc W4 _ = W5 at hT hN hI hP b0 hS' ⊢
                            refine wpAnyH_ready (rs := [14]) (by kernel_rfl) (by simp) ?_
                            refine AllReadyH.cons rfl (fun K hK => ?_) AllReadyH.nil
                            rw [if_pos (by rfl)]
                            have z0 := hP.c0
                            have z1 := hP.c1
                            have z2 := hP.c2
                            have z3 := hP.f 0
                            have z4 := hP.f 1
                            have z5 := hP.f 2
                            go_simp
                            have e := fun j hj => put3_other W5 pp (.slice fo 1 fc) (.string (enc c)) (.slice ro 1 rc) j hj
                            replace hN := hN.heap (fun b off he => e b (hN.ne hP hnz b off he))
                            replace hI := hI.heap (fun b off he => e b (hI.ne (by simp) hP hiz b off he))
                            replace hT : TPB _ pt _ _ _ := (e pt (Ne.symm hne)).trans hT
                            replace b0 := ((b0.setCell (p := ⟨pp, 0, none⟩) hpp (.slice fo 1 fc)).setCell (p := ⟨pp, 1, none⟩) hpp (.string (enc c))).setCell (p := ⟨pp, 2, none⟩) hpp (.slice ro 1 rc)
                            replace hP := hP.put (.slice fo 1 fc) (.string (enc c)) (.slice ro 1 rc)
                            refine hK.out _ _ (HMK.out _ b0) (fun hS' => ?_)
                            clear hK e z0 z1 z2 z3 z4 z5
                            try simp only [put9T, List.set]
                            generalize World.setCell (World.setCell (World.setCell W5 _ _) _ _) _ _ = W6 at hP hT hN hI b0 hS' ⊢
                            refine wpAnyH_ready (rs := [15]) (by kernel_rfl) (by simp) ?_
                            refine AllReadyH.cons rfl (fun K hK => ?_) AllReadyH.nil
                            rw [if_pos (by rfl)]
                            have z0 := hT.c0
                            have z1 := hT.c1
                            have z2 := hT.c2
                            have z3 := hT.f 0
                            have z4 := hT.f 1
                            have z5 := hT.f 2
                            go_simp
                            have e := fun j hj => put3_other W6 pt (.slice no 1 nc) (.string ⟨#[]⟩) (.int .i64 1) j hj
                            replace hN := hN.heap (fun b off he => e b (hN.ne hT hnt b off he))
                            replace hI := hI.heap (fun b off he => e b (hI.ne (by simp) hT hit b off he))
                            replace hP : PFB _ pp _ _ _ := (e pp hne).trans hP
                            replace b0 := ((b0.setCell (p := ⟨pt, 0, none⟩) hpt (.slice no 1 nc)).setCell (p := ⟨pt, 1, none⟩) hpt (.string ⟨#[]⟩)).setCell (p := ⟨pt, 2, none⟩) hpt (.int .i64 1)
                            replace hT := hT.put (v0 := .slice no 1 nc) (v1 := .string ⟨#[]⟩) (v2 := .int .i64 1)
                            refine hK.out _ _ (HMK.out _ b0) (fun hS' => ?_)
                            clear hK e z0 z1 z2 z3 z4 z5
                            try simp only [put9T, List.set]
                            generalize World.setCell (World.setCell (World.setCell W6 _ _) _ _) _ _ = W7 at hP hT hN hI b0 hS' ⊢
                            refine tkT 16 25 (.int .i64 0) rfl rfl (by kernel_rfl) (fun _ _ _ _ _ h => h) (.inl ⟨by rfl, fun w' hSw => (by go_simp)⟩) (by assumption) ?_
                            try simp only [put9T, List.set]
                            refine wpAnyH_done (by kernel_rfl) ?_ _
                            clear hS'
                            go_wp2_with fail
                            go_meet
                            exact ⟨pp, fo, fc, ro, rc, rfl, rfl, hP, hN, hI, b0⟩
                          · rw [if_pos (by rfl)]
                            go_simp
                            have kb := (Below.refl _ W3).alloc (Nat.le_refl _) (.cells #[.slice none 0 0, .string ⟨#[]⟩, .slice none 0 0] 61)
                            have hpp : wr.heap.size ≤ W3.heap.size := b0.size
                            have hne : W3.heap.size ≠ pt := Nat.ne_of_gt hT.lt
                            replace hT := hT.below kb hT.lt
                            replace hX := hX.below kb hX.lt
                            have hP := PFB.new W3 (.slice none 0 0) (.string ⟨#[]⟩) (.slice none 0 0)
                            replace b0 := b0.trans (kb.mono b0.size)
                            clear kb
                            refine hK.out _ _ (HMK.out _ b0) (fun hS' => ?_)
                            clear hK
                            try simp only [put9T, List.set]
                            generalize W3.heap.size = pp at hP hpp hne ⊢
                            generalize World.alloc W3 _ = W4 at hT hX hP b0 hS' ⊢
                            refine wpAnyH_ready (rs := [7]) (by kernel_rfl) (by simp) ?_
                            refine AllReadyH.cons rfl (fun K hK => ?_) AllReadyH.nil
                            rw [if_pos (by rfl)]
                            go_simp
                            go_at_call 11
                            refine (HC.out _ _ _ b0 hX.ns).mono ?_; rintro e W5 ⟨fo, fc, ro, rc, no, nc, rfl, hN, hI, kb⟩
                            clear hX
                            replace hT := hT.below kb hT.lt
                            replace hP := hP.below kb hP.lt
                            replace b0 := b0.trans (kb.mono b0.size)
                            clear kb
                            refine hK.out _ _ (HMK.out _ b0) (fun hS' => ?_)
                            clear hK
                            try simp only [put9T, List.set]
                            refine tkT 8 137 (.tuple #[.agg #[.slice fo 1 fc, .string (enc c), .slice ro 1 rc], .agg #[.slice no 1 nc, .string ⟨#[]⟩, .int .i64 1], .int .i64 0]) rfl rfl (by kernel_rfl) (fun _ _ _ _ _ h => h) (.inl ⟨by rfl, fun w' hSw => (by go_simp)⟩) (by assumption) ?_
                            try simp only [put9T, List.set]
                            refine tkT 9 146 (.agg #[.slice fo 1 fc, .string (enc c), .slice ro 1 rc]) rfl rfl (by kernel_rfl) (fun _ _ _ _ _ h => h) (.inl ⟨by rfl, fun w' hSw => (by go_simp)⟩) (by assumption) ?_
                            try simp only [put9T, List.set]
                            refine tkT 10 147 (.agg #[.slice no 1 nc, .string ⟨#[]⟩, .int .i64 1]) rfl rfl (by kernel_rfl) (fun _ _ _ _ _ h => h) (.inl ⟨by rfl, fun w' hSw => (by go_simp)⟩) (by assumption) ?_
                            try simp only [put9T, List.set]
                            refine tkT 11 148 (.int .i64 0) rfl rfl (by kernel_rfl) (fun _ _ _ _ _ h => h) (.inl ⟨by rfl, fun w' hSw => (by go_simp)⟩) (by assumption) ?_
                            try simp only [put9T, List.set]
                            refine wpAnyH_ready (rs := [14]) (by kernel_rfl) (by simp) ?_
                            refine AllReadyH.cons rfl (fun K hK => ?_) AllReadyH.nil
                            rw [if_pos (by rfl)]
                            have z0 := hP.c0
                            have z1 := hP.c1
                            have z2 := hP.c2
                            have z3 := hP.f 0
                            have z4 := hP.f 1
                            have z5 := hP.f 2
                            go_simp
                            have e := fun j hj => put3_other W5 pp (.slice fo 1 fc) (.string (enc c)) (.slice ro 1 rc) j hj
                            replace hN := hN.heap (fun b off he => e b (hN.ne hP hnz b off he))
                            replace hI := hI.heap (fun b off he => e b (hI.ne (by simp) hP hiz b off he))
                            replace hT : TPB _ pt _ _ _ := (e pt (Ne.symm hne)).trans hT
                            replace b0 := ((b0.setCell (p := ⟨pp, 0, none⟩) hpp (.slice fo 1 fc)).setCell (p := ⟨pp, 1, none⟩) hpp (.string (enc c))).setCell (p := ⟨pp, 2, none⟩) hpp (.slice ro 1 rc)
                            replace hP := hP.put (.slice fo 1 fc) (.string (enc c)) (.slice ro 1 rc)
                            refine hK.out _ _ (HMK.out _ b0) (fun hS' => ?_)
                            clear hK e z0 z1 z2 z3 z4 z5
                            try simp only [put9T, List.set]
                            generalize World.setCell (World.setCell (World.setCell W5 _ _) _ _) _ _ = W6 at hP hT hN hI b0 hS' ⊢
                            refine wpAnyH_ready (rs := [15]) (by kernel_rfl) (by simp) ?_
                            refine AllReadyH.cons rfl (fun K hK => ?_) AllReadyH.nil
                            rw [if_pos (by rfl)]
                            have z0 := hT.c0
                            have z1 := hT.c1
                            have z2 := hT.c2
                            have z3 := hT.f 0
                            have z4 := hT.f 1
                            have z5 := hT.f 2
                            go_simp
                            have e := fun j hj => put3_other W6 pt (.slice no 1 nc) (.string ⟨#[]⟩) (.int .i64 1) j hj
                            replace hN := hN.heap (fun b off he => e b (hN.ne hT hnt b off he))
                            replace hI := hI.heap (fun b off he => e b (hI.ne (by simp) hT hit b off he))
                            replace hP : PFB _ pp _ _ _ := (e pp hne).trans hP
                            replace b0 := ((b0.setCell (p := ⟨pt, 0, none⟩) hpt (.slice no 1 nc)).setCell (p := ⟨pt, 1, none⟩) hpt (.string ⟨#[]⟩)).setCell (p := ⟨pt, 2, none⟩) hpt (.int .i64 1)
                            replace hT := hT.put (v0 := .slice no 1 nc) (v1 := .string ⟨#[]⟩) (v2 := .int .i64 1)
                            refine hK.out _ _ (HMK.out _ b0) (fun hS' => ?_)
                            clear hK e z0 z1 z2 z3 z4 z5
                            try simp only [put9T, List.set]
                            generalize World.setCell (World.setCell (World.setCell W6 _ _) _ _) _ _ = W7 at hP hT hN hI b0 hS' ⊢
                            refine tkT 16 25 (.int .i64 0) rfl rfl (by kernel_rfl) (fun _ _ _ _ _ h => h) (.inl ⟨by rfl, fun w' hSw => (by go_simp)⟩) (by assumption) ?_
                            try simp only [put9T, List.set]
                            refine wpAnyH_done (by kernel_rfl) ?_ _
                            clear hS'
                            go_wp2_with fail
                            go_meet
                            exact ⟨pp, fo, fc, ro, rc, rfl, rfl, hP, hN, hI, b0⟩
                        · rw [if_pos (by rfl)]
                          go_simp
                          have kb := (Below.refl _ W2).alloc (Nat.le_refl _) (.cells #[.slice none 0 0, .string ⟨#[]⟩, .slice none 0 0] 61)
                          have hpp : wr.heap.size ≤ W2.heap.size := b0.size
                          have hne : W2.heap.size ≠ pt := Nat.ne_of_gt hT.lt
                          replace hT := hT.below kb hT.lt
                          have hP := PFB.new W2 (.slice none 0 0) (.string ⟨#[]⟩) (.slice none 0 0)
                          replace b0 := b0.trans (kb.mono b0.size)
                          clear kb
                          refine hK.out _ _ (HMK.out _ b0) (fun hS' => ?_)
                          clear hK
                          try simp only [put9T, List.set]
                          generalize W2.heap.size = pp at hP hpp hne ⊢
                          generalize World.alloc W2 _ = W3 at hT hP b0 hS' ⊢
                          refine wpAnyH_ready (rs := [5]) (by kernel_rfl) (by simp) ?_
                          refine AllReadyH.cons rfl (fun K hK => ?_) AllReadyH.nil
                          rw [if_pos (by rfl)]
                          go_simp
                          have kb := (Below.refl _ W3).alloc (Nat.le_refl _) (.cells #[.string (enc k)] 25)
                          replace hT := hT.below kb hT.lt
                          replace hP := hP.below kb hP.lt
                          have hX := SB.new W3 (enc k)
                          replace b0 := b0.trans (kb.mono b0.size)
                          clear kb
                          refine hK.out _ _ (HMK.out _ b0) (fun hS' => ?_)
                          clear hK
                          try simp only [put9T, List.set]
                          generalize W3.heap.size = px at hX ⊢
                          generalize World.alloc W3 _ = W4 at hT hP hX b0 hS' ⊢
                          refine tkT 6 144 (.agg #[.slice (some ⟨px, 0, none⟩) 1 1, .string ⟨#[]⟩, .int .i64 0]) rfl rfl (by kernel_rfl) (fun _ _ _ _ _ h => h) (.inl ⟨by rfl, fun w' hSw => (by go_simp)⟩) (by assumption) ?_
                          try simp only [put9T, List.set]
                          refine wpAnyH_ready (rs := [7]) (by kernel_rfl) (by simp) ?_
                          refine AllReadyH.cons rfl (fun K hK => ?_) AllReadyH.nil
                          rw [if_pos (by rfl)]
                          go_simp
                          go_at_call 11
                          refine (HC.out _ _ _ b0 hX.ns).mono ?_; rintro e W5 ⟨fo, fc, ro, rc, no, nc, rfl, hN, hI, kb⟩
                          clear hX
                          replace hT := hT.below kb hT.lt
                          replace hP := hP.below kb hP.lt
                          replace b0 := b0.trans (kb.mono b0.size)
                          clear kb
                          refine hK.out _ _ (HMK.out _ b0) (fun hS' => ?_)
                          clear hK
                          try simp only [put9T, List.set]
                          refine tkT 8 137 (.tuple #[.agg #[.slice fo 1 fc, .string (enc c), .slice ro 1 rc], .agg #[.slice no 1 nc, .string ⟨#[]⟩, .int .i64 1], .int .i64 0]) rfl rfl (by kernel_rfl) (fun _ _ _ _ _ h => h) (.inl ⟨by rfl, fun w' hSw => (by go_simp)⟩) (by assumption) ?_
                          try simp only [put9T, List.set]
                          refine tkT 9 146 (.agg #[.slice fo 1 fc, .string (enc c), .slice ro 1 rc]) rfl rfl (by kernel_rfl) (fun _ _ _ _ _ h => h) (.inl ⟨by rfl, fun w' hSw => (by go_simp)⟩) (by assumption) ?_
                          try simp only [put9T, List.set]
                          refine tkT 10 147 (.agg #[.slice no 1 nc, .string ⟨#[]⟩, .int .i64 1]) rfl rfl (by kernel_rfl) (fun _ _ _ _ _ h => h) (.inl ⟨by rfl, fun w' hSw => (by go_simp)⟩) (by assumption) ?_
                          try simp only [put9T, List.set]
                          refine tkT 11 148 (.int .i64 0) rfl rfl (by kernel_rfl) (fun _ _ _ _ _ h => h) (.inl ⟨by rfl, fun w' hSw => (by go_simp)⟩) (by assumption) ?_
                          try simp only [put9T, List.set]
                          refine wpAnyH_ready (rs := [14]) (by kernel_rfl) (by simp) ?_
                          refine AllReadyH.cons rfl (fun K hK => ?_) AllReadyH.nil
                          rw [if_pos (by rfl)]
                          have z0 := hP.c0
                          have z1 := hP.c1
                          have z2 := hP.c2
                          have z3 := hP.f 0
                          have z4 := hP.f 1
                          have z5 := hP.f 2
                          go_simp
                          have e := fun j hj => put3_other W5 pp (.slice fo 1 fc) (.string (enc c)) (.slice ro 1 rc) j hj
                          replace hN := hN.heap (fun b off he => e b (hN.ne hP hnz b off he))
                          replace hI := hI.heap (fun b off he => e b (hI.ne (by simp) hP hiz b off he))
                          replace hT : TPB _ pt _ _ _ := (e pt (Ne.symm hne)).trans hT
                          replace b0 := ((b0.setCell (p := ⟨pp, 0, none⟩) hpp (.slice fo 1 fc)).setCell (p := ⟨pp, 1, none⟩) hpp (.string (enc c))).setCell (p := ⟨pp, 2, none⟩) hpp (.slice ro 1 rc)
                          replace hP := hP.put (.slice fo 1 fc) (.string (enc c)) (.slice ro 1 rc)
                          refine hK.out _ _ (HMK.out _ b0) (fun hS' => ?_)
                          clear hK e z0 z1 z2 z3 z4 z5
                          try simp only [put9T, List.set]
                          generalize World.setCell (World.setCell (World.setCell W5 _ _) _ _) _ _ = W6 at hP hT hN hI b0 hS' ⊢
                          refine wpAnyH_ready (rs := [15]) (by kernel_rfl) (by simp) ?_
                          refine AllReadyH.cons rfl (fun K hK => ?_) AllReadyH.nil
                          rw [if_pos (by rfl)]
                          have z0 := hT.c0
                          have z1 := hT.c1
                          have z2 := hT.c2
                          have z3 := hT.f 0
                          have z4 := hT.f 1
                          have z5 := hT.f 2
                          go_simp
                          have e := fun j hj => put3_other W6 pt (.slice no 1 nc) (.string ⟨#[]⟩) (.int .i64 1) j hj
                          replace hN := hN.heap (fun b off he => e b (hN.ne hT hnt b off he))
                          replace hI := hI.heap (fun b off he => e b (hI.ne (by simp) hT hit b off he))
                          replace hP : PFB _ pp _ _ _ := (e pp hne).trans hP
                          replace b0 := ((b0.setCell (p := ⟨pt, 0, none⟩) hpt (.slice no 1 nc)).setCell (p := ⟨pt, 1, none⟩) hpt (.string ⟨#[]⟩)).setCell (p := ⟨pt, 2, none⟩) hpt (.int .i64 1)
                          replace hT := hT.put (v0 := .slice no 1 nc) (v1 := .string ⟨#[]⟩) (v2 := .int .i64 1)
                          refine hK.out _ _ (HMK.out _ b0) (fun hS' => ?_)
                          clear hK e z0 z1 z2 z3 z4 z5
                          try simp only [put9T, List.set]
                          generalize World.setCell (World.setCell (World.setCell W6 _ _) _ _) _ _ = W7 at hP hT hN hI b0 hS' ⊢
                          refine tkT 16 25 (.int .i64 0) rfl rfl (by kernel_rfl) (fun _ _ _ _ _ h => h) (.inl ⟨by rfl, fun w' hSw => (by go_simp)⟩) (by assumption) ?_
                          try simp only [put9T, List.set]
                          refine wpAnyH_done (by kernel_rfl) ?_ _
                          clear hS'
                          go_wp2_with fail
                          go_meet
                          exact ⟨pp, fo, fc, ro, rc, rfl, rfl, hP, hN, hI, b0⟩
                    · rw [if_pos (by rfl)]
                      go_simp
                      have kb := (Below.refl _ W0).alloc (Nat.le_refl _) (.cells #[.slice none 0 0, .string ⟨#[]⟩, .slice none 0 0] 61)
                      have hpp : wr.heap.size ≤ W0.heap.size := b0.size
                      have hP := PFB.new W0 (.slice none 0 0) (.string ⟨#[]⟩) (.slice none 0 0)
                      replace b0 := b0.trans (kb.mono b0.size)
                      clear kb
                      refine hK.out _ _ (HMK.out _ b0) (fun hS' => ?_)
                      clear hK
                      try simp only [put9T, List.set]
                      generalize W0.heap.size = pp at hP hpp ⊢
                      generalize World.alloc W0 _ = W1 at hP b0 hS' ⊢
                      refine wpAnyH_ready (rs := [4, 13]) (by kernel_rfl) (by simp) ?_
                      refine AllReadyH.cons rfl (fun K hK => ?_) (AllReadyH.cons rfl (fun K hK => ?_) AllReadyH.nil)
                      · rw [if_pos (by rfl)]
                        go_simp
                        go_at_call 4
                        refine (HO.out _).mono ?_; rintro e W2 ⟨rfl, kb⟩
                        replace hP := hP.below kb hP.lt
                        replace b0 := b0.trans (kb.mono b0.size)
                        clear kb
                        refine hK.out _ _ (HMK.out _ b0) (fun hS' => ?_)
                        clear hK
                        try simp only [put9T, List.set]
                        refine wpAnyH_ready (rs := [5, 13]) (by kernel_rfl) (by simp) ?_
                        refine AllReadyH.cons rfl (fun K hK => ?_) (AllReadyH.cons rfl (fun K hK => ?_) AllReadyH.nil)
                        · rw [if_pos (by rfl)]
                          go_simp
                          have kb := (Below.refl _ W2).alloc (Nat.le_refl _) (.cells #[.string (enc k)] 25)
                          replace hP := hP.below kb hP.lt
                          have hX := SB.new W2 (enc k)
                          replace b0 := b0.trans (kb.mono b0.size)
                          clear kb
                          refine hK.out _ _ (HMK.out _ b0) (fun hS' => ?_)
                          clear hK
                          try simp only [put9T, List.set]
                          generalize W2.heap.size = px at hX ⊢
                          generalize World.alloc W2 _ = W3 at hP hX b0 hS' ⊢
                          refine tkT 6 144 (.agg #[.slice (some ⟨px, 0, none⟩) 1 1, .string ⟨#[]⟩, .int .i64 0]) rfl rfl (by kernel_rfl) (fun _ _ _ _ _ h => h) (.inl ⟨by rfl, fun w' hSw => (by go_simp)⟩) (by assumption) ?_
                          try simp only [put9T, List.set]
                          refine wpAnyH_ready (rs := [7, 13]) (by kernel_rfl) (by simp) ?_
                          refine AllReadyH.cons rfl (fun K hK => ?_) (AllReadyH.cons rfl (fun K hK => ?_) AllReadyH.nil)
                          · rw [if_pos (by rfl)]
                            go_simp
                            go_at_call 11
                            refine (HC.out _ _ _ b0 hX.ns).mono ?_; rintro e W4 ⟨fo, fc, ro, rc, no, nc, rfl, hN, hI, kb⟩
                            clear hX
                            replace hP := hP.below kb hP.lt
                            replace b0 := b0.trans (kb.mono b0.size)
                            clear kb
                            refine hK.out _ _ (HMK.out _ b0) (fun hS' => ?_)
                            clear hK
                            try simp only [put9T, List.set]
                            refine tkT 8 137 (.tuple #[.agg #[.slice fo 1 fc, .string (enc c), .slice ro 1 rc], .agg #[.slice no 1 nc, .string ⟨#[]⟩, .int .i64 1], .int .i64 0]) rfl rfl (by kernel_rfl) (fun _ _ _ _ _ h => h) (.inl ⟨by rfl, fun w' hSw => (by go_simp)⟩) (by assumption) ?_
                            try simp only [put9T, List.set]
                            refine tkT 9 146 (.agg #[.slice fo 1 fc, .string (enc c), .slice ro 1 rc]) rfl rfl (by kernel_rfl) (fun _ _ _ _ _ h => h) (.inl ⟨by rfl, fun w' hSw => (by go_simp)⟩) (by assumption) ?_
                            try simp only [put9T, List.set]
                            refine tkT 10 147 (.agg #[.slice no 1 nc, .string ⟨#[]⟩, .int .i64 1]) rfl rfl (by kernel_rfl) (fun _ _ _ _ _ h => h) (.inl ⟨by rfl, fun w' hSw => (by go_simp)⟩) (by assumption) ?_
                            try simp only [put9T, List.set]
                            refine tkT 11 148 (.int .i64 0) rfl rfl (by kernel_rfl) (fun _ _ _ _ _ h => h) (.inl ⟨by rfl, fun w' hSw => (by go_simp)⟩) (by assumption) ?_
                            try simp only [put9T, List.set]
                            refine wpAnyH_ready (rs := [13]) (by kernel_rfl) (by simp) ?_
                            refine AllReadyH.cons rfl (fun K hK => ?_) AllReadyH.nil
                            rw [if_pos (by rfl)]
                            go_simp
                            have kb := (Below.refl _ W4).alloc (Nat.le_refl _) (.cells #[.slice none 0 0, .string ⟨#[]⟩, .int .i64 0] 63)
                            have hpt : wr.heap.size ≤ W4.heap.size := b0.size
                            have hne : pp ≠ W4.heap.size := Nat.ne_of_lt hP.lt
                            replace hP := hP.below kb hP.lt
                            replace hN := hN.keepL (cells_keepL kb (Nat.le_refl _))
                            replace hI := hI.keepL (cells_keepL kb (Nat.le_refl _))
                            have hT := TPB.new W4 (.slice none 0 0) (.string ⟨#[]⟩) (.int .i64 0)
                            replace b0 := b0.trans (kb.mono b0.size)
                            clear kb
                            refine hK.out _ _ (HMK.out _ b0) (fun hS' => ?_)
                            clear hK
                            try simp only [put9T, List.set]
                            generalize W4.heap.size = pt at hT hpt hne ⊢
                            generalize World.alloc W4 _ = W5 at hP hN hI hT b0 hS' ⊢
                            refine wpAnyH_ready (rs := [14]) (by kernel_rfl) (by simp) ?_
                            refine AllReadyH.cons rfl (fun K hK => ?_) AllReadyH.nil
                            rw [if_pos (by rfl)]
                            have z0 := hP.c0
                            have z1 := hP.c1
                            have z2 := hP.c2
                            have z3 := hP.f 0
                            have z4 := hP.f 1
                            have z5 := hP.f 2
                            go_simp
                            have e := fun j hj => put3_other W5 pp (.slice fo 1 fc) (.string (enc c)) (.slice ro 1 rc) j hj
                            replace hN := hN.heap (fun b off he => e b (hN.ne hP hnz b off he))
                            replace hI := hI.heap (fun b off he => e b (hI.ne (by simp) hP hiz b off he))
                            replace hT : TPB _ pt _ _ _ := (e pt (Ne.symm hne)).trans hT
                            replace b0 := ((b0.setCell (p := ⟨pp, 0, none⟩) hpp (.slice fo 1 fc)).setCell (p := ⟨pp, 1, none⟩) hpp (.string (enc c))).setCell (p := ⟨pp, 2, none⟩) hpp (.slice ro 1 rc)
                            replace hP := hP.put (.slice fo 1 fc) (.string (enc c)) (.slice ro 1 rc)
                            refine hK.out _ _ (HMK.out _ b0) (fun hS' => ?_)
                            clear hK e z0 z1 z2 z3 z4 z5
                            try simp only [put9T, List.set]
                            generalize World.setCell (World.setCell (World.setCell W5 _ _) _ _) _ _ = W6 at hP hT hN hI b0 hS' ⊢
                            refine wpAnyH_ready (rs := [15]) (by kernel_rfl) (by simp) ?_
                            refine AllReadyH.cons rfl (fun K hK => ?_) AllReadyH.nil
                            rw [if_pos (by rfl)]
                            have z0 := hT.c0
                            have z1 := hT.c1
                            have z2 := hT.c2
                            have z3 := hT.f 0
                            have z4 := hT.f 1
                            have z5 := hT.f 2
                            go_simp
                            have e := fun j hj => put3_other W6 pt (.slice no 1 nc) (.string ⟨#[]⟩) (.int .i64 1) j hj
                            replace hN := hN.heap (fun b off he => e b (hN.ne hT hnt b off he))
                            replace hI := hI.heap (fun b off he => e b (hI.ne (by simp) hT hit b off he))
                            replace hP : PFB _ pp _ _ _ := (e pp hne).trans hP
                            replace b0 := ((b0.setCell (p := ⟨pt, 0, none⟩) hpt (.slice no 1 nc)).setCell (p := ⟨pt, 1, none⟩) hpt (.string ⟨#[]⟩)).setCell (p := ⟨pt, 2, none⟩) hpt (.int .i64 1)
                            replace hT := hT.put (v0 := .slice no 1 nc) (v1 := .string ⟨#[]⟩) (v2 := .int .i64 1)
                            refine hK.out _ _ (HMK.out _ b0) (fun hS' => ?_)
                            clear hK e z0 z1 z2 z3 z4 z5
                            try simp only [put9T, List.set]
                            generalize World.setCell (World.setCell (World.setCell W6 _ _) _ _) _ _ = W7 at hP hT hN hI b0 hS' ⊢
                            refine tkT 16 25 (.int .i64 0) rfl rfl (by kernel_rfl) (fun _ _ _ _ _ h => h) (.inl ⟨by rfl, fun w' hSw => (by go_simp)⟩) (by assumption) ?_
                            try simp only [put9T, List.set]
                            refine wpAnyH_done (by kernel_rfl) ?_ _
                            clear hS'
                            go_wp2_with fail
                            go_meet
                            exact ⟨pp, fo, fc, ro, rc, rfl, rfl, hP, hN, hI, b0⟩
                          · rw [if_pos (by rfl)]
                            go_simp
                            have kb := (Below.refl _ W3).alloc (Nat.le_refl _) (.cells #[.slice none 0 0, .string ⟨#[]⟩, .int .i64 0] 63)
                            have hpt : wr.heap.size ≤ W3.heap.size := b0.size
                            have hne : pp ≠ W3.heap.size := Nat.ne_of_lt hP.lt
                            replace hP := hP.below kb hP.lt
                            replace hX := hX.below kb hX.lt
                            have hT := TPB.new W3 (.slice none 0 0) (.string ⟨#[]⟩) (.int .i64 0)
                            replace b0 := b0.trans (kb.mono b0.size)
                            clear kb
                            refine hK.out _ _ (HMK.out _ b0) (fun hS' => ?_)
                            clear hK
                            try simp only [put9T, List.set]
                            generalize W3.heap.size = pt at hT hpt hne ⊢
                            generalize World.alloc W3 _ = W4 at hP hX hT b0 hS' ⊢
                            refine wpAnyH_ready (rs := [7]) (by kernel_rfl) (by simp) ?_
                            refine AllReadyH.cons rfl (fun K hK => ?_) AllReadyH.nil
                            rw [if_pos (by rfl)]
                            go_simp
                            go_at_call 11
                            refine (HC.out _ _ _ b0 hX.ns).mono ?_; rintro e W5 ⟨fo, fc, ro, rc, no, nc, rfl, hN, hI, kb⟩
                            clear hX
                            replace hP := hP.below kb hP.lt
                            replace hT := hT.below kb hT.lt
                            replace b0 := b0.trans (kb.mono b0.size)
                            clear kb
                            refine hK.out _ _ (HMK.out _ b0) (fun hS' => ?_)
                            clear hK
                            try simp only [put9T, List.set]
                            refine tkT 8 137 (.tuple #[.agg #[.slice fo 1 fc, .string (enc c), .slice ro 1 rc], .agg #[.slice no 1 nc, .string ⟨#[]⟩, .int .i64 1], .int .i64 0]) rfl rfl (by kernel_rfl) (fun _ _ _ _ _ h => h) (.inl ⟨by rfl, fun w' hSw => (by go_simp)⟩) (by assumption) ?_
                            try simp only [put9T, List.set]
                            refine tkT 9 146 (.agg #[.slice fo 1 fc, .string (enc c), .slice ro 1 rc]) rfl rfl (by kernel_rfl) (fun _ _ _ _ _ h => h) (.inl ⟨by rfl, fun w' hSw => (by go_simp)⟩) (by assumption) ?_
                            try simp only [put9T, List.set]
                            refine tkT 10 147 (.agg #[.slice no 1 nc, .string ⟨#[]⟩, .int .i64 1]) rfl rfl (by kernel_rfl) (fun _ _ _ _ _ h => h) (.inl ⟨by rfl, fun w' hSw => (by go_simp)⟩) (by assumption) ?_
                            try simp only [put9T, List.set]
                            refine tkT 11 148 (.int .i64 0) rfl rfl (by kernel_rfl) (fun _ _ _ _ _ h => h) (.inl ⟨by rfl, fun w' hSw => (by go_simp)⟩) (by assumption) ?_
                            try simp only [put9T, List.set]
                            refine wpAnyH_ready (rs := [14]) (by kernel_rfl) (by simp) ?_
                            refine AllReadyH.cons rfl (fun K hK => ?_) AllReadyH.nil
                            rw [if_pos (by rfl)]
                            have z0 := hP.c0
                            have z1 := hP.c1
                            have z2 := hP.c2
                            have z3 := hP.f 0
                            have z4 := hP.f 1
                            have z5 := hP.f 2
                            go_simp
                            have e := fun j hj => put3_other W5 pp (.slice fo 1 fc) (.string (enc c)) (.slice ro 1 rc) j hj
                            replace hN := hN.heap (fun b off he => e b (hN.ne hP hnz b off he))
                            replace hI := hI.heap (fun b off he => e b (hI.ne (by simp) hP hiz b off he))
                            replace hT : TPB _ pt _ _ _ := (e pt (Ne.symm hne)).trans hT
                            replace b0 := ((b0.setCell (p := ⟨pp, 0, none⟩) hpp (.slice fo 1 fc)).setCell (p := ⟨pp, 1, none⟩) hpp (.string (enc c))).setCell (p := ⟨pp, 2, none⟩) hpp (.slice ro 1 rc)
                            replace hP := hP.put (.slice fo 1 fc) (.string (enc c)) (.slice ro 1 rc)
                            refine hK.out _ _ (HMK.out _ b0) (fun hS' => ?_)
                            clear hK e z0 z1 z2 z3 z4 z5
                            try simp only [put9T, List.set]
                            generalize World.setCell (World.setCell (World.setCell W5 _ _) _ _) _ _ = W6 at hP hT hN hI b0 hS' ⊢
                            refine wpAnyH_ready (rs := [15]) (by kernel_rfl) (by simp) ?_
                            refine AllReadyH.cons rfl (fun K hK => ?_) AllReadyH.nil
                            rw [if_pos (by rfl)]
                            have z0 := hT.c0
                            have z1 := hT.c1
                            have z2 := hT.c2
                            have z3 := hT.f 0
                            have z4 := hT.f 1
                            have z5 := hT.f 2
                            go_simp
                            have e := fun j hj => put3_other W6 pt (.slice no 1 nc) (.string ⟨#[]⟩) (.int .i64 1) j hj
                            replace hN := hN.heap (fun b off he => e b (hN.ne hT hnt b off he))
                            replace hI := hI.heap (fun b off he => e b (hI.ne (by simp) hT hit b off he))
                            replace hP : PFB _ pp _ _ _ := (e pp hne).trans hP
                            replace b0 := ((b0.setCell (p := ⟨pt, 0, none⟩) hpt (.slice no 1 nc)).setCell (p := ⟨pt, 1, none⟩) hpt (.string ⟨#[]⟩)).setCell (p := ⟨pt, 2, none⟩) hpt (.int .i64 1)
                            replace hT := hT.put (v0 := .slice no 1 nc) (v1 := .string ⟨#[]⟩) (v2 := .int .i64 1)
                            refine hK.out _ _ (HMK.out _ b0) (fun hS' => ?_)
                            clear hK e z0 z1 z2 z3 z4 z5
                            try simp only [put9T, List.set]
                            generalize World.setCell (World.setCell (World.setCell W6 _ _) _ _) _ _ = W7 at hP hT hN hI b0 hS' ⊢
                            refine tkT 16 25 (.int .i64 0) rfl rfl (by kernel_rfl) (fun _ _ _ _ _ h => h) (.inl ⟨by rfl, fun w' hSw => (by go_simp)⟩) (by assumption) ?_
                            try simp only [put9T, List.set]
                            refine wpAnyH_done (by kernel_rfl) ?_ _
                            clear hS'
                            go_wp2_with fail
                            go_meet
                            exact ⟨pp, fo, fc, ro, rc, rfl, rfl, hP, hN, hI, b0⟩
                        · rw [if_pos (by rfl)]
                          go_simp
                          have kb := (Below.refl _ W2).alloc (Nat.le_refl _) (.cells #[.slice none 0 0, .string ⟨#[]⟩, .int .i64 0] 63)
                          have hpt : wr.heap.size ≤ W2.heap.size := b0.size
                          have hne : pp ≠ W2.heap.size := Nat.ne_of_lt hP.lt
                          replace hP := hP.below kb hP.lt
                          have hT := TPB.new W2 (.slice none 0 0) (.string ⟨#[]⟩) (.int .i64 0)
                          replace b0 := b0.trans (kb.mono b0.size)
                          clear kb
                          refine hK.out _ _ (HMK.out _ b0) (fun hS' => ?_)
                          clear hK
                          try simp only [put9T, List.set]
                          generalize W2.heap.size = pt at hT hpt hne ⊢
                          generalize World.alloc W2 _ = W3 at hP hT b0 hS' ⊢
                          refine wpAnyH_ready (rs := [5]) (by kernel_rfl) (by simp) ?_
                          refine AllReadyH.cons rfl (fun K hK => ?_) AllReadyH.nil
                          rw [if_pos (by rfl)]
                          go_simp
                          have kb := (Below.refl _ W3).alloc (Nat.le_refl _) (.cells #[.string (enc k)] 25)
                          replace hP := hP.below kb hP.lt
                          replace hT := hT.below kb hT.lt
                          have hX := SB.new W3 (enc k)
                          replace b0 := b0.trans (kb.mono b0.size)
                          clear kb
                          refine hK.out _ _ (HMK.out _ b0) (fun hS' => ?_)
                          clear hK
                          try simp only [put9T, List.set]
                          generalize W3.heap.size = px at hX ⊢
                          generalize World.alloc W3 _ = W4 at hP hT hX b0 hS' ⊢
                          refine tkT 6 144 (.agg #[.slice (some ⟨px, 0, none⟩) 1 1, .string ⟨#[]⟩, .int .i64 0]) rfl rfl (by kernel_rfl) (fun _ _ _ _ _ h => h) (.inl ⟨by rfl, fun w' hSw => (by go_simp)⟩) (by assumption) ?_
                          try simp only [put9T, List.set]
                          refine wpAnyH_ready (rs := [7]) (by kernel_rfl) (by simp) ?_
                          refine AllReadyH.cons rfl (fun K hK => ?_) AllReadyH.nil
                          rw [if_pos (by rfl)]
                          go_simp
                          go_at_call 11
                          refine (HC.out _ _ _ b0 hX.ns).mono ?_; rintro e W5 ⟨fo, fc, ro, rc, no, nc, rfl, hN, hI, kb⟩
                          clear hX
                          replace hP := hP.below kb hP.lt
                          replace hT := hT.below kb hT.lt
                          replace b0 := b0.trans (kb.mono b0.size)
                          clear kb
                          refine hK.out _ _ (HMK.out _ b0) (fun hS' => ?_)
                          clear hK
                          try simp only [put9T, List.set]
                          refine tkT 8 137 (.tuple #[.agg #[.slice fo 1 fc, .string (enc c), .slice ro 1 rc], .agg #[.slice no 1 nc, .string ⟨#[]⟩, .int .i64 1], .int .i64 0]) rfl rfl (by kernel_rfl) (fun _ _ _ _ _ h => h) (.inl ⟨by rfl, fun w' hSw => (by go_simp)⟩) (by assumption) ?_
                          try simp only [put9T, List.set]
                          refine tkT 9 146 (.agg #[.slice fo 1 fc, .string (enc c), .slice ro 1 rc]) rfl rfl (by kernel_rfl) (fun _ _ _ _ _ h => h) (.inl ⟨by rfl, fun w' hSw => (by go_simp)⟩) (by assumption) ?_
                          try simp only [put9T, List.set]
                          refine tkT 10 147 (.agg #[.slice no 1 nc, .string ⟨#[]⟩, .int .i64 1]) rfl rfl (by kernel_rfl) (fun _ _ _ _ _ h => h) (.inl ⟨by rfl, fun w' hSw => (by go_simp)⟩) (by assumption) ?_
                          try simp only [put9T, List.set]
                          refine tkT 11 148 (.int .i64 0) rfl rfl (by kernel_rfl) (fun _ _ _ _ _ h => h) (.inl ⟨by rfl, fun w' hSw => (by go_simp)⟩) (by assumption) ?_
                          try simp only [put9T, List.set]
                          refine wpAnyH_ready (rs := [14]) (by kernel_rfl) (by simp) ?_
                          refine AllReadyH.cons rfl (fun K hK => ?_) AllReadyH.nil
                          rw [if_pos (by rfl)]
                          have z0 := hP.c0
                          have z1 := hP.c1
                          have z2 := hP.c2
                          have z3 := hP.f 0
                          have z4 := hP.f 1
                          have z5 := hP.f 2
                          go_simp
                          have e := fun j hj => put3_other W5 pp (.slice fo 1 fc) (.string (enc c)) (.slice ro 1 rc) j hj
                          replace hN := hN.heap (fun b off he => e b (hN.ne hP hnz b off he))
                          replace hI := hI.heap (fun b off he => e b (hI.ne (by simp) hP hiz b off he))
                          replace hT : TPB _ pt _ _ _ := (e pt (Ne.symm hne)).trans hT
                          replace b0 := ((b0.setCell (p := ⟨pp, 0, none⟩) hpp (.slice fo 1 fc)).setCell (p := ⟨pp, 1, none⟩) hpp (.string (enc c))).setCell (p := ⟨pp, 2, none⟩) hpp (.slice ro 1 rc)
                          replace hP := hP.put (.slice fo 1 fc) (.string (enc c)) (.slice ro 1 rc)
                          refine hK.out _ _ (HMK.out _ b0) (fun hS' => ?_)
                          clear hK e z0 z1 z2 z3 z4 z5
                          try simp only [put9T, List.set]
                          generalize World.setCell (World.setCell (World.setCell W5 _ _) _ _) _ _ = W6 at hP hT hN hI b0 hS' ⊢
                          refine wpAnyH_ready (rs := [15]) (by kernel_rfl) (by simp) ?_
                          refine AllReadyH.cons rfl (fun K hK => ?_) AllReadyH.nil
                          rw [if_pos (by rfl)]
                          have z0 := hT.c0
                          have z1 := hT.c1
                          have z2 := hT.c2
                          have z3 := hT.f 0
                          have z4 := hT.f 1
                          have z5 := hT.f 2
                          go_simp
                          have e := fun j hj => put3_other W6 pt (.slice no 1 nc) (.string ⟨#[]⟩) (.int .i64 1) j hj
                          replace hN := hN.heap (fun b off he => e b (hN.ne hT hnt b off he))
                          replace hI := hI.heap (fun b off he => e b (hI.ne (by simp) hT hit b off he))
                          replace hP : PFB _ pp _ _ _ := (e pp hne).trans hP
                          replace b0 := ((b0.setCell (p := ⟨pt, 0, none⟩) hpt (.slice no 1 nc)).setCell (p := ⟨pt, 1, none⟩) hpt (.string ⟨#[]⟩)).setCell (p := ⟨pt, 2, none⟩) hpt (.int .i64 1)
                          replace hT := hT.put (v0 := .slice no 1 nc) (v1 := .string ⟨#[]⟩) (v2 := .int .i64 1)
                          refine hK.out _ _ (HMK.out _ b0) (fun hS' => ?_)
                          clear hK e z0 z1 z2 z3 z4 z5
                          try simp only [put9T, List.set]
                          generalize World.setCell (World.setCell (World.setCell W6 _ _) _ _) _ _ = W7 at hP hT hN hI b0 hS' ⊢
                          refine tkT 16 25 (.int .i64 0) rfl rfl (by kernel_rfl) (fun _ _ _ _ _ h => h) (.inl ⟨by rfl, fun w' hSw => (by go_simp)⟩) (by assumption) ?_
                          try simp only [put9T, List.set]
                          refine wpAnyH_done (by kernel_rfl) ?_ _
                          clear hS'
                          go_wp2_with fail
                          go_meet
                          exact ⟨pp, fo, fc, ro, rc, rfl, rfl, hP, hN, hI, b0⟩
                      · rw [if_pos (by rfl)]
                        go_simp
                        have kb := (Below.refl _ W1).alloc (Nat.le_refl _) (.cells #[.slice none 0 0, .string ⟨#[]⟩, .int .i64 0] 63)
                        have hpt : wr.heap.size ≤ W1.heap.size := b0.size
                        have hne : pp ≠ W1.heap.size := Nat.ne_of_lt hP.lt
                        replace hP := hP.below kb hP.lt
                        have hT := TPB.new W1 (.slice none 0 0) (.string ⟨#[]⟩) (.int .i64 0)
                        replace b0 := b0.trans (kb.mono b0.size)
                        clear kb
                        refine hK.out _ _ (HMK.out _ b0) (fun hS' => ?_)
                        clear hK
                        try simp only [put9T, List.set]
                        generalize W1.heap.size = pt at hT hpt hne ⊢
                        generalize World.alloc W1 _ = W2 at hP hT b0 hS' ⊢
                        refine wpAnyH_ready (rs := [4]) (by kernel_rfl) (by simp) ?_
                        refine AllReadyH.cons rfl (fun K hK => ?_) AllReadyH.nil
                        rw [if_pos (by rfl)]
                        go_simp
                        go_at_call 4
                        refine (HO.out _).mono ?_; rintro e W3 ⟨rfl, kb⟩
                        replace hP := hP.below kb hP.lt
                        replace hT := hT.below kb hT.lt
                        replace b0 := b0.trans (kb.mono b0.size)
                        clear kb
                        refine hK.out _ _ (HMK.out _ b0) (fun hS' => ?_)
                        clear hK
                        try simp only [put9T, List.set]
                        refine wpAnyH_ready (rs := [5]) (by kernel_rfl) (by simp) ?_
                        refine AllReadyH.cons rfl (fun K hK => ?_) AllReadyH.nil
                        rw [if_pos (by rfl)]
                        go_simp
                        have kb := (Below.refl _ W3).alloc (Nat.le_refl _) (.cells #[.string (enc k)] 25)
                        replace hP := hP.below kb hP.lt
                        replace hT := hT.below kb hT.lt
                        have hX := SB.new W3 (enc k)
                        replace b0 := b0.trans (kb.mono b0.size)
                        clear kb
                        refine hK.out _ _ (HMK.out _ b0) (fun hS' => ?_)
                        clear hK
                        try simp only [put9T, List.set]
                        generalize W3.heap.size = px at hX ⊢
                        generalize World.alloc W3 _ = W4 at hP hT hX b0 hS' ⊢
                        refine tkT 6 144 (.agg #[.slice (some ⟨px, 0, none⟩) 1 1, .string ⟨#[]⟩, .int .i64 0]) rfl rfl (by kernel_rfl) (fun _ _ _ _ _ h => h) (.inl ⟨by rfl, fun w' hSw => (by go_simp)⟩) (by assumption) ?_
                        try simp only [put9T, List.set]
                        refine wpAnyH_ready (rs := [7]) (by kernel_rfl) (by simp) ?_
                        refine AllReadyH.cons rfl (fun K hK => ?_) AllReadyH.nil
                        rw [if_pos (by rfl)]
                        go_simp
                        go_at_call 11
                        refine (HC.out _ _ _ b0 hX.ns).mono ?_; rintro e W5 ⟨fo, fc, ro, rc, no, nc, rfl, hN, hI, kb⟩
                        clear hX
                        replace hP := hP.below kb hP.lt
                        replace hT := hT.below kb hT.lt
                        replace b0 := b0.trans (kb.mono b0.size)
                        clear kb
                        refine hK.out _ _ (HMK.out _ b0) (fun hS' => ?_)
                        clear hK
                        try simp only [put9T, List.set]
                        refine tkT 8 137 (.tuple #[.agg #[.slice fo 1 fc, .string (enc c), .slice ro 1 rc], .agg #[.slice no 1 nc, .string ⟨#[]⟩, .int .i64 1], .int .i64 0]) rfl rfl (by kernel_rfl) (fun _ _ _ _ _ h => h) (.inl ⟨by rfl, fun w' hSw => (by go_simp)⟩) (by assumption) ?_
                        try simp only [put9T, List.set]
                        refine tkT 9 146 (.agg #[.slice fo 1 fc, .string (enc c), .slice ro 1 rc]) rfl rfl (by kernel_rfl) (fun _ _ _ _ _ h => h) (.inl ⟨by rfl, fun w' hSw => (by go_simp)⟩) (by assumption) ?_
                        try simp only [put9T, List.set]
                        refine tkT 10 147 (.agg #[.slice no 1 nc, .string ⟨#[]⟩, .int .i64 1]) rfl rfl (by kernel_rfl) (fun _ _ _ _ _ h => h) (.inl ⟨by rfl, fun w' hSw => (by go_simp)⟩) (by assumption) ?_
                        try simp only [put9T, List.set]
                        refine tkT 11 148 (.int .i64 0) rfl rfl (by kernel_rfl) (fun _ _ _ _ _ h => h) (.inl ⟨by rfl, fun w' hSw => (by go_simp)⟩) (by assumption) ?_
                        try simp only [put9T, List.set]
                        refine wpAnyH_ready (rs := [14]) (by kernel_rfl) (by simp) ?_
                        refine AllReadyH.cons rfl (fun K hK => ?_) AllReadyH.nil
                        rw [if_pos (by rfl)]
                        have z0 := hP.c0
                        have z1 := hP.c1
                        have z2 := hP.c2
                        have z3 := hP.f 0
                        have z4 := hP.f 1
                        have z5 := hP.f 2
                        go_simp
                        have e := fun j hj => put3_other W5 pp (.slice fo 1 fc) (.string (enc c)) (.slice ro 1 rc) j hj
                        replace hN := hN.heap (fun b off he => e b (hN.ne hP hnz b off he))
                        replace hI := hI.heap (fun b off he => e b (hI.ne (by simp) hP hiz b off he))
                        replace hT : TPB _ pt _ _ _ := (e pt (Ne.symm hne)).trans hT
                        replace b0 := ((b0.setCell (p := ⟨pp, 0, none⟩) hpp (.slice fo 1 fc)).setCell (p := ⟨pp, 1, none⟩) hpp (.string (enc c))).setCell (p := ⟨pp, 2, none⟩) hpp (.slice ro 1 rc)
                        replace hP := hP.put (.slice fo 1 fc) (.string (enc c)) (.slice ro 1 rc)
                        refine hK.out _ _ (HMK.out _ b0) (fun hS' => ?_)
                        clear hK e z0 z1 z2 z3 z4 z5
                        try simp only [put9T, List.set]
                        generalize World.setCell (World.setCell (World.setCell W5 _ _) _ _) _ _ = W6 at hP hT hN hI b0 hS' ⊢
                        refine wpAnyH_ready (rs := [15]) (by kernel_rfl) (by simp) ?_
                        refine AllReadyH.cons rfl (fun K hK => ?_) AllReadyH.nil
                        rw [if_pos (by rfl)]
                        have z0 := hT.c0
                        have z1 := hT.c1
                        have z2 := hT.c2
                        have z3 := hT.f 0
                        have z4 := hT.f 1
                        have z5 := hT.f 2
                        go_simp
                        have e := fun j hj => put3_other W6 pt (.slice no 1 nc) (.string ⟨#[]⟩) (.int .i64 1) j hj
                        replace hN := hN.heap (fun b off he => e b (hN.ne hT hnt b off he))
                        replace hI := hI.heap (fun b off he => e b (hI.ne (by simp) hT hit b off he))
                        replace hP : PFB _ pp _ _ _ := (e pp hne).trans hP
                        replace b0 := ((b0.setCell (p := ⟨pt, 0, none⟩) hpt (.slice no 1 nc)).setCell (p := ⟨pt, 1, none⟩) hpt (.string ⟨#[]⟩)).setCell (p := ⟨pt, 2, none⟩) hpt (.int .i64 1)
                        replace hT := hT.put (v0 := .slice no 1 nc) (v1 := .string ⟨#[]⟩) (v2 := .int .i64 1)
                        refine hK.out _ _ (HMK.out _ b0) (fun hS' => ?_)
                        clear hK e z0 z1 z2 z3 z4 z5
                        try simp only [put9T, List.set]
                        generalize World.setCell (World.setCell (World.setCell W6 _ _) _ _) _ _ = W7 at hP hT hN hI b0 hS' ⊢
                        refine tkT 16 25 (.int .i64 0) rfl rfl (by kernel_rfl) (fun _ _ _ _ _ h => h) (.inl ⟨by rfl, fun w' hSw => (by go_simp)⟩) (by assumption) ?_
                        try simp only [put9T, List.set]
                        refine wpAnyH_done (by kernel_rfl) ?_ _
                        clear hS'
                        go_wp2_with fail
                        go_meet
                        exact ⟨pp, fo, fc, ro, rc, rfl, rfl, hP, hN, hI, b0⟩
                    · rw [if_pos (by rfl)]
                      go_simp
                      have kb := (Below.refl _ W0).alloc (Nat.le_refl _) (.cells #[.slice none 0 0, .string ⟨#[]⟩, .int .i64 0] 63)
                      have hpt : wr.heap.size ≤ W0.heap.size := b0.size
                      have hT := TPB.new W0 (.slice none 0 0) (.string ⟨#[]⟩) (.int .i64 0)
                      replace b0 := b0.trans (kb.mono b0.size)
                      clear kb
                      refine hK.out _ _ (HMK.out _ b0) (fun hS' => ?_)
                      clear hK
                      try simp only [put9T, List.set]
                      generalize W0.heap.size = pt at hT hpt ⊢
                      generalize World.alloc W0 _ = W1 at hT b0 hS' ⊢
                      refine wpAnyH_ready (rs := [4, 12]) (by kernel_rfl) (by simp) ?_
                      refine AllReadyH.cons rfl (fun K hK => ?_) (AllReadyH.cons rfl (fun K hK => ?_) AllReadyH.nil)
                      · rw [if_pos (by rfl)]
                        go_simp
                        go_at_call 4
                        refine (HO.out _).mono ?_; rintro e W2 ⟨rfl, kb⟩
                        replace hT := hT.below kb hT.lt
                        replace b0 := b0.trans (kb.mono b0.size)
                        clear kb
                        refine hK.out _ _ (HMK.out _ b0) (fun hS' => ?_)
                        clear hK
                        try simp only [put9T, List.set]
                        refine wpAnyH_ready (rs := [5, 12]) (by kernel_rfl) (by simp) ?_
                        refine AllReadyH.cons rfl (fun K hK => ?_) (AllReadyH.cons rfl (fun K hK => ?_) AllReadyH.nil)
                        · rw [if_pos (by rfl)]
                          go_simp
                          have kb := (Below.refl _ W2).alloc (Nat.le_refl _) (.cells #[.string (enc k)] 25)
                          replace hT := hT.below kb hT.lt
                          have hX := SB.new W2 (enc k)
                          replace b0 := b0.trans (kb.mono b0.size)
                          clear kb
                          refine hK.out _ _ (HMK.out _ b0) (fun hS' => ?_)
                          clear hK
                          try simp only [put9T, List.set]
                          generalize W2.heap.size = px at hX ⊢
                          generalize World.alloc W2 _ = W3 at hT hX b0 hS' ⊢
                          refine tkT 6 144 (.agg #[.slice (some ⟨px, 0, none⟩) 1 1, .string ⟨#[]⟩, .int .i64 0]) rfl rfl (by kernel_rfl) (fun _ _ _ _ _ h => h) (.inl ⟨by rfl, fun w' hSw => (by go_simp)⟩) (by assumption) ?_
                          try simp only [put9T, List.set]
                          refine wpAnyH_ready (rs := [7, 12]) (by kernel_rfl) (by simp) ?_
                          refine AllReadyH.cons rfl (fun K hK => ?_) (AllReadyH.cons rfl (fun K hK => ?_) AllReadyH.nil)
                          · rw [if_pos (by rfl)]
                            go_simp
                            go_at_call 11
                            refine (HC.out _ _ _ b0 hX.ns).mono ?_; rintro e W4 ⟨fo, fc, ro, rc, no, nc, rfl, hN, hI, kb⟩
                            clear hX
                            replace hT := hT.below kb hT.lt
                            replace b0 := b0.trans (kb.mono b0.size)
                            clear kb
                            refine hK.out _ _ (HMK.out _ b0) (fun hS' => ?_)
                            clear hK
                            try simp only [put9T, List.set]
                            refine tkT 8 137 (.tuple #[.agg #[.slice fo 1 fc, .string (enc c), .slice ro 1 rc], .agg #[.slice no 1 nc, .string ⟨#[]⟩, .int .i64 1], .int .i64 0]) rfl rfl (by kernel_rfl) (fun _ _ _ _ _ h => h) (.inl ⟨by rfl, fun w' hSw => (by go_simp)⟩) (by assumption) ?_
                            try simp only [put9T, List.set]
                            refine tkT 9 146 (.agg #[.slice fo 1 fc, .string (enc c), .slice ro 1 rc]) rfl rfl (by kernel_rfl) (fun _ _ _ _ _ h => h) (.inl ⟨by rfl, fun w' hSw => (by go_simp)⟩) (by assumption) ?_
                            try simp only [put9T, List.set]
                            refine tkT 10 147 (.agg #[.slice no 1 nc, .string ⟨#[]⟩, .int .i64 1]) rfl rfl (by kernel_rfl) (fun _ _ _ _ _ h => h) (.inl ⟨by rfl, fun w' hSw => (by go_simp)⟩) (by assumption) ?_
                            try simp only [put9T, List.set]
                            refine tkT 11 148 (.int .i64 0) rfl rfl (by kernel_rfl) (fun _ _ _ _ _ h => h) (.inl ⟨by rfl, fun w' hSw => (by go_simp)⟩) (by assumption) ?_
                            try simp only [put9T, List.set]
                            refine wpAnyH_ready (rs := [12]) (by kernel_rfl) (by simp) ?_
                            refine AllReadyH.cons rfl (fun K hK => ?_) AllReadyH.nil
                            rw [if_pos (by rfl)]
                            go_simp
                            have kb := (Below.refl _ W4).alloc (Nat.le_refl _) (.cells #[.slice none 0 0, .string ⟨#[]⟩, .slice none 0 0] 61)
                            have hpp : wr.heap.size ≤ W4.heap.size := b0.size
                            have hne : W4.heap.size ≠ pt := Nat.ne_of_gt hT.lt
                            replace hT := hT.below kb hT.lt
                            replace hN := hN.keepL (cells_keepL kb (Nat.le_refl _))
                            replace hI := hI.keepL (cells_keepL kb (Nat.le_refl _))
                            have hP := PFB.new W4 (.slice none 0 0) (.string ⟨#[]⟩) (.slice none 0 0)
                            replace b0 := b0.trans (kb.mono b0.size)
                            clear kb
                            refine hK.out _ _ (HMK.out _ b0) (fun hS' => ?_)
                            clear hK
                            try simp only [put9T, List.set]
                            generalize W4.heap.size = pp at hP hpp hne ⊢
                            generalize World.alloc W4 _ = W5 at hT hN hI hP b0 hS' ⊢
                            refine wpAnyH_ready (rs := [14]) (by kernel_rfl) (by simp) ?_
                            refine AllReadyH.cons rfl (fun K hK => ?_) AllReadyH.nil
                            rw [if_pos (by rfl)]
                            have z0 := hP.c0
                            have z1 := hP.c1
                            have z2 := hP.c2
                            have z3 := hP.f 0
                            have z4 := hP.f 1
                            have z5 := hP.f 2
                            go_simp
                            have e := fun j hj => put3_other W5 pp (.slice fo 1 fc) (.string (enc c)) (.slice ro 1 rc) j hj
                            replace hN := hN.heap (fun b off he => e b (hN.ne hP hnz b off he))
                            replace hI := hI.heap (fun b off he => e b (hI.ne (by simp) hP hiz b off he))
                            replace hT : TPB _ pt _ _ _ := (e pt (Ne.symm hne)).trans hT
                            replace b0 := ((b0.setCell (p := ⟨pp, 0, none⟩) hpp (.slice fo 1 fc)).setCell (p := ⟨pp, 1, none⟩) hpp (.string (enc c))).setCell (p := ⟨pp, 2, none⟩) hpp (.slice ro 1 rc)
                            replace hP := hP.put (.slice fo 1 fc) (.string (enc c)) (.slice ro 1 rc)
                            refine hK.out _ _ (HMK.out _ b0) (fun hS' => ?_)
                            clear hK e z0 z1 z2 z3 z4 z5
                            try simp only [put9T, List.set]
                            generalize World.setCell (World.setCell (World.setCell W5 _ _) _ _) _ _ = W6 at hP hT hN hI b0 hS' ⊢
                            refine wpAnyH_ready (rs := [15]) (by kernel_rfl) (by simp) ?_
                            refine AllReadyH.cons rfl (fun K hK => ?_) AllReadyH.nil
                            rw [if_pos (by rfl)]
                            have z0 := hT.c0
                            have z1 := hT.c1
                            have z2 := hT.c2
                            have z3 := hT.f 0
                            have z4 := hT.f 1
                            have z5 := hT.f 2
                            go_simp
                            have e := fun j hj => put3_other W6 pt (.slice no 1 nc) (.string ⟨#[]⟩) (.int .i64 1) j hj
                            replace hN := hN.heap (fun b off he => e b (hN.ne hT hnt b off he))
                            replace hI := hI.heap (fun b off he => e b (hI.ne (by simp) hT hit b off he))
                            replace hP : PFB _ pp _ _ _ := (e pp hne).trans hP
                            replace b0 := ((b0.setCell (p := ⟨pt, 0, none⟩) hpt (.slice no 1 nc)).setCell (p := ⟨pt, 1, none⟩) hpt (.string ⟨#[]⟩)).setCell (p := ⟨pt, 2, none⟩) hpt (.int .i64 1)
                            replace hT := hT.put (v0 := .slice no 1 nc) (v1 := .string ⟨#[]⟩) (v2 := .int .i64 1)
                            refine hK.out _ _ (HMK.out _ b0) (fun hS' => ?_)
                            clear hK e z0 z1 z2 z3 z4 z5
                            try simp only [put9T, List.set]
                            generalize World.setCell (World.setCell (World.setCell W6 _ _) _ _) _ _ = W7 at hP hT hN hI b0 hS' ⊢
                            refine tkT 16 25 (.int .i64 0) rfl rfl (by kernel_rfl) (fun _ _ _ _ _ h => h) (.inl ⟨by rfl, fun w' hSw => (by go_simp)⟩) (by assumption) ?_
                            try simp only [put9T, List.set]
                            refine wpAnyH_done (by kernel_rfl) ?_ _
                            clear hS'
                            go_wp2_with fail
                            go_meet
                            exact ⟨pp, fo, fc, ro, rc, rfl, rfl, hP, hN, hI, b0⟩
                          · rw [if_pos (by rfl)]
                            go_simp
                            have kb := (Below.refl _ W3).alloc (Nat.le_refl _) (.cells #[.slice none 0 0, .string ⟨#[]⟩, .slice none 0 0] 61)
                            have hpp : wr.heap.size ≤ W3.heap.size := b0.size
                            have hne : W3.heap.size ≠ pt := Nat.ne_of_gt hT.lt
                            replace hT := hT.below kb hT.lt
                            replace hX := hX.below kb hX.lt
                            have hP := PFB.new W3 (.slice none 0 0) (.string ⟨#[]⟩) (.slice none 0 0)
                            replace b0 := b0.trans (kb.mono b0.size)
                            clear kb
                            refine hK.out _ _ (HMK.out _ b0) (fun hS' => ?_)
                            clear hK
                            try simp only [put9T, List.set]
                            generalize W3.heap.size = pp at hP hpp hne ⊢
                            generalize World.alloc W3 _ = W4 at hT hX hP b0 hS' ⊢
                            refine wpAnyH_ready (rs := [7]) (by kernel_rfl) (by simp) ?_
                            refine AllReadyH.cons rfl (fun K hK => ?_) AllReadyH.nil
                            rw [if_pos (by rfl)]
                            go_simp
                            go_at_call 11
                            refine (HC.out _ _ _ b0 hX.ns).mono ?_; rintro e W5 ⟨fo, fc, ro, rc, no, nc, rfl, hN, hI, kb⟩
                            clear hX
                            replace hT := hT.below kb hT.lt
                            replace hP := hP.below kb hP.lt
                            replace b0 := b0.trans (kb.mono b0.size)
                            clear kb
                            refine hK.out _ _ (HMK.out _ b0) (fun hS' => ?_)
                            clear hK
                            try simp only [put9T, List.set]
                            refine tkT 8 137 (.tuple #[.agg #[.slice fo 1 fc, .string (enc c), .slice ro 1 rc], .agg #[.slice no 1 nc, .string ⟨#[]⟩, .int .i64 1], .int .i64 0]) rfl rfl (by kernel_rfl) (fun _ _ _ _ _ h => h) (.inl ⟨by rfl, fun w' hSw => (by go_simp)⟩) (by assumption) ?_
                            try simp only [put9T, List.set]
                            refine tkT 9 146 (.agg #[.slice fo 1 fc, .string (enc c), .slice ro 1 rc]) rfl rfl (by kernel_rfl) (fun _ _ _ _ _ h => h) (.inl ⟨by rfl, fun w' hSw => (by go_simp)⟩) (by assumption) ?_
                            try simp only [put9T, List.set]
                            refine tkT 10 147 (.agg #[.slice no 1 nc, .string ⟨#[]⟩, .int .i64 1]) rfl rfl (by kernel_rfl) (fun _ _ _ _ _ h => h) (.inl ⟨by rfl, fun w' hSw => (by go_simp)⟩) (by assumption) ?_
                            try simp only [put9T, List.set]
                            refine tkT 11 148 (.int .i64 0) rfl rfl (by kernel_rfl) (fun _ _ _ _ _ h => h) (.inl ⟨by rfl, fun w' hSw => (by go_simp)⟩) (by assumption) ?_
                            try simp only [put9T, List.set]
                            refine wpAnyH_ready (rs := [14]) (by kernel_rfl) (by simp) ?_
                            refine AllReadyH.cons rfl (fun K hK => ?_) AllReadyH.nil
                            rw [if_pos (by rfl)]
                            have z0 := hP.c0
                            have z1 := hP.c1
                            have z2 := hP.c2
                            have z3 := hP.f 0
                            have z4 := hP.f 1
                            have z5 := hP.f 2
                            go_simp
                            have e := fun j hj => put3_other W5 pp (.slice fo 1 fc) (.string (enc c)) (.slice ro 1 rc) j hj
                            replace hN := hN.heap (fun b off he => e b (hN.ne hP hnz b off he))
                            replace hI := hI.heap (fun b off he => e b (hI.ne (by simp) hP hiz b off he))
                            replace hT : TPB _ pt _ _ _ := (e pt (Ne.symm hne)).trans hT
                            replace b0 := ((b0.setCell (p := ⟨pp, 0, none⟩) hpp (.slice fo 1 fc)).setCell (p := ⟨pp, 1, none⟩) hpp (.string (enc c))).setCell (p := ⟨pp, 2, none⟩) hpp (.slice ro 1 rc)
                            replace hP := hP.put (.slice fo 1 fc) (.string (enc c)) (.slice ro 1 rc)
                            refine hK.out _ _ (HMK.out _ b0) (fun hS' => ?_)
                            clear hK e z0 z1 z2 z3 z4 z5
                            try simp only [put9T, List.set]
                            generalize World.setCell (World.setCell (World.setCell W5 _ _) _ _) _ _ = W6 at hP hT hN hI b0 hS' ⊢
                            refine wpAnyH_ready (rs := [15]) (by kernel_rfl) (by simp) ?_
                            refine AllReadyH.cons rfl (fun K hK => ?_) AllReadyH.nil
                            rw [if_pos (by rfl)]
                            have z0 := hT.c0
                            have z1 := hT.c1
                            have z2 := hT.c2
                            have z3 := hT.f 0
                            have z4 := hT.f 1
                            have z5 := hT.f 2
                            go_simp
                            have e := fun j hj => put3_other W6 pt (.slice no 1 nc) (.string ⟨#[]⟩) (.int .i64 1) j hj
                            replace hN := hN.heap (fun b off he => e b (hN.ne hT hnt b off he))
                            replace hI := hI.heap (fun b off he => e b (hI.ne (by simp) hT hit b off he))
                            replace hP : PFB _ pp _ _ _ := (e pp hne).trans hP
                            replace b0 := ((b0.setCell (p := ⟨pt, 0, none⟩) hpt (.slice no 1 nc)).setCell (p := ⟨pt, 1, none⟩) hpt (.string ⟨#[]⟩)).setCell (p := ⟨pt, 2, none⟩) hpt (.int .i64 1)
                            replace hT := hT.put (v0 := .slice no 1 nc) (v1 := .string ⟨#[]⟩) (v2 := .int .i64 1)
                            refine hK.out _ _ (HMK.out _ b0) (fun hS' => ?_)
                            clear hK e z0 z1 z2 z3 z4 z5
                            try simp only [put9T, List.set]
                            generalize World.setCell (World.setCell (World.setCell W6 _ _) _ _) _ _ = W7 at hP hT hN hI b0 hS' ⊢
                            refine tkT 16 25 (.int .i64 0) rfl rfl (by kernel_rfl) (fun _ _ _ _ _ h => h) (.inl ⟨by rfl, fun w' hSw => (by go_simp)⟩) (by assumption) ?_
                            try simp only [put9T, List.set]
                            refine wpAnyH_done (by kernel_rfl) ?_ _
                            clear hS'
                            go_wp2_with fail
                            go_meet
                            exact ⟨pp, fo, fc, ro, rc, rfl, rfl, hP, hN, hI, b0⟩
                        · rw [if_pos (by rfl)]
                          go_simp
                          have kb := (Below.refl _ W2).alloc (Nat.le_refl _) (.cells #[.slice none 0 0, .string ⟨#[]⟩, .slice none 0 0] 61)
                          have hpp : wr.heap.size ≤ W2.heap.size := b0.size
                          have hne : W2.heap.size ≠ pt := Nat.ne_of_gt hT.lt
                          replace hT := hT.below kb hT.lt
                          have hP := PFB.new W2 (.slice none 0 0) (.string ⟨#[]⟩) (.slice none 0 0)
                          replace b0 := b0.trans (kb.mono b0.size)
                          clear kb
                          refine hK.out _ _ (HMK.out _ b0) (fun hS' => ?_)
                          clear hK
                          try simp only [put9T, List.set]
                          generalize W2.heap.size = pp at hP hpp hne ⊢
                          generalize World.alloc W2 _ = W3 at hT hP b0 hS' ⊢
                          refine wpAnyH_ready (rs := [5]) (by kernel_rfl) (by simp) ?_
                          refine AllReadyH.cons rfl (fun K hK => ?_) AllReadyH.nil
                          rw [if_pos (by rfl)]
                          go_simp
                          have kb := (Below.refl _ W3).alloc (Nat.le_refl _) (.cells #[.string (enc k)] 25)
                          replace hT := hT.below kb hT.lt
                          replace hP := hP.below kb hP.lt
                          have hX := SB.new W3 (enc k)
                          replace b0 := b0.trans (kb.mono b0.size)
                          clear kb
                          refine hK.out _ _ (HMK.out _ b0) (fun hS' => ?_)
                          clear hK
                          try simp only [put9T, List.set]
                          generalize W3.heap.size = px at hX ⊢
                          generalize World.alloc W3 _ = W4 at hT hP hX b0 hS' ⊢
                          refine tkT 6 144 (.agg #[.slice (some ⟨px, 0, none⟩) 1 1, .string ⟨#[]⟩, .int .i64 0]) rfl rfl (by kernel_rfl) (fun _ _ _ _ _ h => h) (.inl ⟨by rfl, fun w' hSw => (by go_simp)⟩) (by assumption) ?_
                          try simp only [put9T, List.set]
                          refine wpAnyH_ready (rs := [7]) (by kernel_rfl) (by simp) ?_
                          refine AllReadyH.cons rfl (fun K hK => ?_) AllReadyH.nil
                          rw [if_pos (by rfl)]
                          go_simp
                          go_at_call 11
                          refine (HC.out _ _ _ b0 hX.ns).mono ?_; rintro e W5 ⟨fo, fc, ro, rc, no, nc, rfl, hN, hI, kb⟩
                          clear hX
                          replace hT := hT.below kb hT.lt
                          replace hP := hP.below kb hP.lt
                          replace b0 := b0.trans (kb.mono b0.size)
                          clear kb
                          refine hK.out _ _ (HMK.out _ b0) (fun hS' => ?_)
                          clear hK
                          try simp only [put9T, List.set]
                          refine tkT 8 137 (.tuple #[.agg #[.slice fo 1 fc, .string (enc c), .slice ro 1 rc], .agg #[.slice no 1 nc, .string ⟨#[]⟩, .int .i64 1], .int .i64 0]) rfl rfl (by kernel_rfl) (fun _ _ _ _ _ h => h) (.inl ⟨by rfl, fun w' hSw => (by go_simp)⟩) (by assumption) ?_
                          try simp only [put9T, List.set]
                          refine tkT 9 146 (.agg #[.slice fo 1 fc, .string (enc c), .slice ro 1 rc]) rfl rfl (by kernel_rfl) (fun _ _ _ _ _ h => h) (.inl ⟨by rfl, fun w' hSw => (by go_simp)⟩) (by assumption) ?_
                          try simp only [put9T, List.set]
                          refine tkT 10 147 (.agg #[.slice no 1 nc, .string ⟨#[]⟩, .int .i64 1]) rfl rfl (by kernel_rfl) (fun _ _ _ _ _ h => h) (.inl ⟨by rfl, fun w' hSw => (by go_simp)⟩) (by assumption) ?_
                          try simp only [put9T, List.set]
                          refine tkT 11 148 (.int .i64 0) rfl rfl (by kernel_rfl) (fun _ _ _ _ _ h => h) (.inl ⟨by rfl, fun w' hSw => (by go_simp)⟩) (by assumption) ?_
                          try simp only [put9T, List.set]
                          refine wpAnyH_ready (rs := [14]) (by kernel_rfl) (by simp) ?_
                          refine AllReadyH.cons rfl (fun K hK => ?_) AllReadyH.nil
                          rw [if_pos (by rfl)]
                          have z0 := hP.c0
                          have z1 := hP.c1
                          have z2 := hP.c2
                          have z3 := hP.f 0
                          have z4 := hP.f 1
                          have z5 := hP.f 2
                          go_simp
                          have e := fun j hj => put3_other W5 pp (.slice fo 1 fc) (.string (enc c)) (.slice ro 1 rc) j hj
                          replace hN := hN.heap (fun b off he => e b (hN.ne hP hnz b off he))
                          replace hI := hI.heap (fun b off he => e b (hI.ne (by simp) hP hiz b off he))
                          replace hT : TPB _ pt _ _ _ := (e pt (Ne.symm hne)).trans hT
                          replace b0 := ((b0.setCell (p := ⟨pp, 0, none⟩) hpp (.slice fo 1 fc)).setCell (p := ⟨pp, 1, none⟩) hpp (.string (enc c))).setCell (p := ⟨pp, 2, none⟩) hpp (.slice ro 1 rc)
                          replace hP := hP.put (.slice fo 1 fc) (.string (enc c)) (.slice ro 1 rc)
                          refine hK.out _ _ (HMK.out _ b0) (fun hS' => ?_)
                          clear hK e z0 z1 z2 z3 z4 z5
                          try simp only [put9T, List.set]
                          generalize World.setCell (World.setCell (World.setCell W5 _ _) _ _) _ _ = W6 at hP hT hN hI b0 hS' ⊢
                          refine wpAnyH_ready (rs := [15]) (by kernel_rfl) (by simp) ?_
                          refine AllReadyH.cons rfl (fun K hK => ?_) AllReadyH.nil
                          rw [if_pos (by rfl)]
                          have z0 := hT.c0
                          have z1 := hT.c1
                          have z2 := hT.c2
                          have z3 := hT.f 0
                          have z4 := hT.f 1
                          have z5 := hT.f 2
                          go_simp
                          have e := fun j hj => put3_other W6 pt (.slice no 1 nc) (.string ⟨#[]⟩) (.int .i64 1) j hj
                          replace hN := hN.heap (fun b off he => e b (hN.ne hT hnt b off he))
                          replace hI := hI.heap (fun b off he => e b (hI.ne (by simp) hT hit b off he))
                          replace hP : PFB _ pp _ _ _ := (e pp hne).trans hP
                          replace b0 := ((b0.setCell (p := ⟨pt, 0, none⟩) hpt (.slice no 1 nc)).setCell (p := ⟨pt, 1, none⟩) hpt (.string ⟨#[]⟩)).setCell (p := ⟨pt, 2, none⟩) hpt (.int .i64 1)
                          replace hT := hT.put (v0 := .slice no 1 nc) (v1 := .string ⟨#[]⟩) (v2 := .int .i64 1)
                          refine hK.out _ _ (HMK.out _ b0) (fun hS' => ?_)
                          clear hK e z0 z1 z2 z3 z4 z5
                          try simp only [put9T, List.set]
                          generalize World.setCell (World.setCell (World.setCell W6 _ _) _ _) _ _ = W7 at hP hT hN hI b0 hS' ⊢
                          refine tkT 16 25 (.int .i64 0) rfl rfl (by kernel_rfl) (fun _ _ _ _ _ h => h) (.inl ⟨by rfl, fun w' hSw => (by go_simp)⟩) (by assumption) ?_
                          try simp only [put9T, List.set]
                          refine wpAnyH_done (by kernel_rfl) ?_ _
                          clear hS'
                          go_wp2_with fail
                          go_meet
                          exact ⟨pp, fo, fc, ro, rc, rfl, rfl, hP, hN, hI, b0⟩
                      · rw [if_pos (by rfl)]
                        go_simp
                        have kb := (Below.refl _ W1).alloc (Nat.le_refl _) (.cells #[.slice none 0 0, .string ⟨#[]⟩, .slice none 0 0] 61)
                        have hpp : wr.heap.size ≤ W1.heap.size := b0.size
                        have hne : W1.heap.size ≠ pt := Nat.ne_of_gt hT.lt
                        replace hT := hT.below kb hT.lt
                        have hP := PFB.new W1 (.slice none 0 0) (.string ⟨#[]⟩) (.slice none 0 0)
                        replace b0 := b0.trans (kb.mono b0.size)
                        clear kb
                        refine hK.out _ _ (HMK.out _ b0) (fun hS' => ?_)
                        clear hK
                        try simp only [put9T, List.set]
                        generalize W1.heap.size = pp at hP hpp hne ⊢
                        generalize World.alloc W1 _ = W2 at hT hP b0 hS' ⊢
                        refine wpAnyH_ready (rs := [4]) (by kernel_rfl) (by simp) ?_
                        refine AllReadyH.cons rfl (fun K hK => ?_) AllReadyH.nil
                        rw [if_pos (by rfl)]
                        go_simp
                        go_at_call 4
                        refine (HO.out _).mono ?_; rintro e W3 ⟨rfl, kb⟩
                        replace hT := hT.below kb hT.lt
                        replace hP := hP.below kb hP.lt
                        replace b0 := b0.trans (kb.mono b0.size)
                        clear kb
                        refine hK.out _ _ (HMK.out _ b0) (fun hS' => ?_)
                        clear hK
                        try simp only [put9T, List.set]
                        refine wpAnyH_ready (rs := [5]) (by kernel_rfl) (by simp) ?_
                        refine AllReadyH.cons rfl (fun K hK => ?_) AllReadyH.nil
                        rw [if_pos (by rfl)]
                        go_simp
                        have kb := (Below.refl _ W3).alloc (Nat.le_refl _) (.cells #[.string (enc k)] 25)
                        replace hT := hT.below kb hT.lt
                        replace hP := hP.below kb hP.lt
                        have hX := SB.new W3 (enc k)
                        replace b0 := b0.trans (kb.mono b0.size)
                        clear kb
                        refine hK.out _ _ (HMK.out _ b0) (fun hS' => ?_)
                        clear hK
                        try simp only [put9T, List.set]
                        generalize W3.heap.size = px at hX ⊢
                        generalize World.alloc W3 _ = W4 at hT hP hX b0 hS' ⊢
                        refine tkT 6 144 (.agg #[.slice (some ⟨px, 0, none⟩) 1 1, .string ⟨#[]⟩, .int .i64 0]) rfl rfl (by kernel_rfl) (fun _ _ _ _ _ h => h) (.inl ⟨by rfl, fun w' hSw => (by go_simp)⟩) (by assumption) ?_
                        try simp only [put9T, List.set]
                        refine wpAnyH_ready (rs := [7]) (by kernel_rfl) (by simp) ?_
                        refine AllReadyH.cons rfl (fun K hK => ?_) AllReadyH.nil
                        rw [if_pos (by rfl)]
                        go_simp
                        go_at_call 11
                        refine (HC.out _ _ _ b0 hX.ns).mono ?_; rintro e W5 ⟨fo, fc, ro, rc, no, nc, rfl, hN, hI, kb⟩
                        clear hX
                        replace hT := hT.below kb hT.lt
                        replace hP := hP.below kb hP.lt
                        replace b0 := b0.trans (kb.mono b0.size)
                        clear kb
                        refine hK.out _ _ (HMK.out _ b0) (fun hS' => ?_)
                        clear hK
                        try simp only [put9T, List.set]
                        refine tkT 8 137 (.tuple #[.agg #[.slice fo 1 fc, .string (enc c), .slice ro 1 rc], .agg #[.slice no 1 nc, .string ⟨#[]⟩, .int .i64 1], .int .i64 0]) rfl rfl (by kernel_rfl) (fun _ _ _ _ _ h => h) (.inl ⟨by rfl, fun w' hSw => (by go_simp)⟩) (by assumption) ?_
                        try simp only [put9T, List.set]
                        refine tkT 9 146 (.agg #[.slice fo 1 fc, .string (enc c), .slice ro 1 rc]) rfl rfl (by kernel_rfl) (fun _ _ _ _ _ h => h) (.inl ⟨by rfl, fun w' hSw => (by go_simp)⟩) (by assumption) ?_
                        try simp only [put9T, List.set]
                        refine tkT 10 147 (.agg #[.slice no 1 nc, .string ⟨#[]⟩, .int .i64 1]) rfl rfl (by kernel_rfl) (fun _ _ _ _ _ h => h) (.inl ⟨by rfl, fun w' hSw => (by go_simp)⟩) (by assumption) ?_
                        try simp only [put9T, List.set]
                        refine tkT 11 148 (.int .i64 0) rfl rfl (by kernel_rfl) (fun _ _ _ _ _ h => h) (.inl ⟨by rfl, fun w' hSw => (by go_simp)⟩) (by assumption) ?_
                        try simp only [put9T, List.set]
                        refine wpAnyH_ready (rs := [14]) (by kernel_rfl) (by simp) ?_
                        refine AllReadyH.cons rfl (fun K hK => ?_) AllReadyH.nil
                        rw [if_pos (by rfl)]
                        have z0 := hP.c0
                        have z1 := hP.c1
                        have z2 := hP.c2
                        have z3 := hP.f 0
                        have z4 := hP.f 1
                        have z5 := hP.f 2
                        go_simp
                        have e := fun j hj => put3_other W5 pp (.slice fo 1 fc) (.string (enc c)) (.slice ro 1 rc) j hj
                        replace hN := hN.heap (fun b off he => e b (hN.ne hP hnz b off he))
                        replace hI := hI.heap (fun b off he => e b (hI.ne (by simp) hP hiz b off he))
                        replace hT : TPB _ pt _ _ _ := (e pt (Ne.symm hne)).trans hT
                        replace b0 := ((b0.setCell (p := ⟨pp, 0, none⟩) hpp (.slice fo 1 fc)).setCell (p := ⟨pp, 1, none⟩) hpp (.string (enc c))).setCell (p := ⟨pp, 2, none⟩) hpp (.slice ro 1 rc)
                        replace hP := hP.put (.slice fo 1 fc) (.string (enc c)) (.slice ro 1 rc)
                        refine hK.out _ _ (HMK.out _ b0) (fun hS' => ?_)
                        clear hK e z0 z1 z2 z3 z4 z5
                        try simp only [put9T, List.set]
                        generalize World.setCell (World.setCell (World.setCell W5 _ _) _ _) _ _ = W6 at hP hT hN hI b0 hS' ⊢
                        refine wpAnyH_ready (rs := [15]) (by kernel_rfl) (by simp) ?_
                        refine AllReadyH.cons rfl (fun K hK => ?_) AllReadyH.nil
                        rw [if_pos (by rfl)]
                        have z0 := hT.c0
                        have z1 := hT.c1
                        have z2 := hT.c2
                        have z3 := hT.f 0
                        have z4 := hT.f 1
                        have z5 := hT.f 2
                        go_simp
                        have e := fun j hj => put3_other W6 pt (.slice no 1 nc) (.string ⟨#[]⟩) (.int .i64 1) j hj
                        replace hN := hN.heap (fun b off he => e b (hN.ne hT hnt b off he))
                        replace hI := hI.heap (fun b off he => e b (hI.ne (by simp) hT hit b off he))
                        replace hP : PFB _ pp _ _ _ := (e pp hne).trans hP
                        replace b0 := ((b0.setCell (p := ⟨pt, 0, none⟩) hpt (.slice no 1 nc)).setCell (p := ⟨pt, 1, none⟩) hpt (.string ⟨#[]⟩)).setCell (p := ⟨pt, 2, none⟩) hpt (.int .i64 1)
                        replace hT := hT.put (v0 := .slice no 1 nc) (v1 := .string ⟨#[]⟩) (v2 := .int .i64 1)
                        refine hK.out _ _ (HMK.out _ b0) (fun hS' => ?_)
                        clear hK e z0 z1 z2 z3 z4 z5
                        try simp only [put9T, List.set]
                        generalize World.setCell (World.setCell (World.setCell W6 _ _) _ _) _ _ = W7 at hP hT hN hI b0 hS' ⊢
                        refine tkT 16 25 (.int .i64 0) rfl rfl (by kernel_rfl) (fun _ _ _ _ _ h => h) (.inl ⟨by rfl, fun w' hSw => (by go_simp)⟩) (by assumption) ?_
                        try simp only [put9T, List.set]
                        refine wpAnyH_done (by kernel_rfl) ?_ _
                        clear hS'
                        go_wp2_with fail
                        go_meet
                        exact ⟨pp, fo, fc, ro, rc, rfl, rfl, hP, hN, hI, b0⟩
                  case rest =>
                    obtain ⟨p, fo, fc, yo, yc, rfl, rfl, hP, hNS, hIY, hBc⟩ := hcut
                    rename World => wd
                    replace hOM := hOM.below hBc hOM.lt
                    replace hB := hB.trans (hBc.mono hB.size)
                    have q0 := hP.c0
                    have q1 := hP.c1
                    have q2 := hP.c2
                    have hcc : ((enc c).toList != (enc c).toList) = false := by simp
                    clear HC HO hBc b5r
                    go_wp2_with fail
                    have z3 : (⟨#[47]⟩ : ByteArray).size = 1 := rfl
                    have a1 := fun (w' : World) => run_string_add_sum (P := Tryz.prog) (w := w') F ⟨#[47]⟩ (by omega)
                    have hs2 : (F ++ ⟨#[47]⟩).size = F.size + 1 := by rw [ByteArray.size_append]; omega
                    have a2 := fun (w' : World) => run_string_add_sum (P := Tryz.prog) (w := w') (F ++ ⟨#[47]⟩) (ikB y) (by omega)
                    have hkey : keyOf Tryz.prog 9 (.string (F ++ ⟨#[47]⟩ ++ ikB y)) = some (klF t u k) := by
                      have := WideMaps.keyOf_string_mk (P := Tryz.prog) Tryz.underlying9 (s := F ++ ⟨#[47]⟩ ++ ikB y) (by rw [ByteArray.size_append]; unfold maxLen; omega)
                      rw [this, hKB]; rfl
                    obtain ⟨fb, fof, rfl, f0⟩ := hNS 0 (by simp)
                    obtain ⟨yb, yof, rfl, y0, y1⟩ := hIY 0 (by simp)
                    simp only [Nat.zero_mul, Nat.add_zero, List.getElem_cons_zero] at f0 y0 y1
                    clear hNS hIY hKB hsF hsI z3 hs2 HEN q1 hcc u0 u1 x0 x1 x2 hP
                    refine wp_region_held_drew (S := fun w' => w'.cell? ⟨fb, fof, none⟩ = some (.string F) ∧ w'.cell? ⟨yb, yof, none⟩ = some (.bool (zb y)) ∧ w'.cell? ⟨yb, yof + 1, none⟩ = some (.string (zs y)) ∧ w'.cell? ⟨p, 0, none⟩ = some (.slice (some ⟨fb, fof, none⟩) 1 fc) ∧ w'.cell? ⟨p, 2, none⟩ = some (.slice (some ⟨yb, yof, none⟩) 1 yc)) (by kernel_rfl) ⟨f0, y0, y1, q0, q2⟩ (fun hS0 => ?_)
                    refine tkT 0 169 (.map (some w9.heap.size)) rfl rfl (by kernel_rfl) (fun _ _ _ _ _ h => h) (.inl ⟨by rfl, fun w' hSw => (by go_simp)⟩) (by assumption) ?_
                    try simp only [put9T, List.set]
                    refine tkT 1 170 (.pointer (some ⟨p, 0, none⟩)) rfl rfl (by kernel_rfl) (fun _ _ _ _ _ h => h) (.inl ⟨by rfl, fun w' hSw => (by go_simp)⟩) (by assumption) ?_
                    try simp only [put9T, List.set]
                    refine tkT 2 171 (.slice (some ⟨fb, fof, none⟩) 1 fc) rfl rfl (by kernel_rfl) (fun _ _ _ _ _ h => h) (.inl ⟨by rfl, fun w' hSw => (by obtain ⟨g0, g1, g2, g3, g4⟩ := hSw; go_simp)⟩) (by assumption) ?_
                    try simp only [put9T, List.set]
                    refine tkT 3 172 (.pointer (some ⟨fb, fof, none⟩)) rfl rfl (by kernel_rfl) (fun _ _ _ _ _ h => h) (.inl ⟨by rfl, fun w' hSw => (by go_simp)⟩) (by assumption) ?_
                    try simp only [put9T, List.set]
                    refine tkT 4 173 (.string F) rfl rfl (by kernel_rfl) (fun _ _ _ _ _ h => h) (.inl ⟨by rfl, fun w' hSw => (by obtain ⟨g0, g1, g2, g3, g4⟩ := hSw; go_simp)⟩) (by assumption) ?_
                    try simp only [put9T, List.set]
                    refine tkT 5 174 (.string (F ++ ⟨#[47]⟩)) rfl rfl (by kernel_rfl) (fun _ _ _ _ _ h => h) (.inl ⟨by rfl, fun w' hSw => (by go_simp)⟩) (by assumption) ?_
                    try simp only [put9T, List.set]
                    refine tkT 6 175 (.pointer (some ⟨p, 2, none⟩)) rfl rfl (by kernel_rfl) (fun _ _ _ _ _ h => h) (.inl ⟨by rfl, fun w' hSw => (by go_simp)⟩) (by assumption) ?_
                    try simp only [put9T, List.set]
                    refine tkT 7 176 (.slice (some ⟨yb, yof, none⟩) 1 yc) rfl rfl (by kernel_rfl) (fun _ _ _ _ _ h => h) (.inl ⟨by rfl, fun w' hSw => (by obtain ⟨g0, g1, g2, g3, g4⟩ := hSw; go_simp)⟩) (by assumption) ?_
                    try simp only [put9T, List.set]
                    refine tkT 8 177 (.pointer (some ⟨yb, yof, none⟩)) rfl rfl (by kernel_rfl) (fun _ _ _ _ _ h => h) (.inl ⟨by rfl, fun w' hSw => (by go_simp)⟩) (by assumption) ?_
                    try simp only [put9T, List.set]
                    refine tkT 9 178 (.agg #[.bool (zb y), .string (zs y)]) rfl rfl (by kernel_rfl) (fun _ _ _ _ _ h => h) (.inl ⟨by rfl, fun w' hSw => (by obtain ⟨g0, g1, g2, g3, g4⟩ := hSw; go_simp)⟩) (by assumption) ?_
                    try simp only [put9T, List.set]
                    replace hOM : OM wd.drew w9.heap.size k (mapOf (LK t u k)) := hOM
                    replace hB : Below w9.heap.size w9 wd.drew := hB.drew
                    clear f0 y0 y1 q0 q2
                    generalize wd.drew = we at hS0 hOM hB ⊢
                    refine wpAnyH_ready (rs := [10]) (by kernel_rfl) (by simp) ?_
                    refine AllReadyH.cons rfl (fun K hK => ?_) AllReadyH.nil
                    rw [if_pos (by rfl)]
                    go_simp
                    go_at_call 12
                    refine (intKey_any y we hys).mono ?_; rintro e wf ⟨rfl, bf⟩
                    have hS1 : wf.cell? ⟨fb, fof, none⟩ = some (.string F) ∧ wf.cell? ⟨yb, yof, none⟩ = some (.bool (zb y)) ∧ wf.cell? ⟨yb, yof + 1, none⟩ = some (.string (zs y)) ∧ wf.cell? ⟨p, 0, none⟩ = some (.slice (some ⟨fb, fof, none⟩) 1 fc) ∧ wf.cell? ⟨p, 2, none⟩ = some (.slice (some ⟨yb, yof, none⟩) 1 yc) := ⟨cells_keepL bf (Nat.le_refl _) _ _ hS0.1, cells_keepL bf (Nat.le_refl _) _ _ hS0.2.1, cells_keepL bf (Nat.le_refl _) _ _ hS0.2.2.1, cells_keepL bf (Nat.le_refl _) _ _ hS0.2.2.2.1, cells_keepL bf (Nat.le_refl _) _ _ hS0.2.2.2.2⟩
                    refine hK.out _ _ hS1 (fun hT => ?_)
                    replace hOM := hOM.below bf hOM.lt
                    replace hB := hB.trans (bf.mono hB.size)
                    clear hK hS0 hT bf
                    try simp only [put9T, List.set]
                    refine tkT 11 180 (.string (F ++ ⟨#[47]⟩ ++ ikB y)) rfl rfl (by kernel_rfl) (fun _ _ _ _ _ h => h) (.inl ⟨by rfl, fun w' hSw => (by go_simp)⟩) (by assumption) ?_
                    try simp only [put9T, List.set]
                    refine wpAnyH_ready (rs := [12]) (by kernel_rfl) (by simp) ?_
                    refine AllReadyH.cons rfl (fun K hK => ?_) AllReadyH.nil
                    rw [if_pos (by rfl)]
                    refine wp_lookup_int wf (.tmp 169) (.tmp 180) 50 (by rfl) 9 3 mlaw Tryz.underlying50 Tryz.underlying3 (mzero _) w9.heap.size k (mapOf (LK t u k)) (by rfl) hOM (.string (F ++ ⟨#[47]⟩ ++ ikB y)) (klF t u k) (by rfl) hkey ?_
                    intro cc hat
                    refine hK.out _ _ hS1 (fun hT => ?_)
                    clear hK hT
                    try simp only [put9T, List.set]
                    refine tkT 13 182 (.int .i64 (IntKind.i64.wrap (cc + 1))) rfl rfl (by kernel_rfl) (fun _ _ _ _ _ h => h) (.inl ⟨by rfl, fun w' hSw => (by go_simp)⟩) (by assumption) ?_
                    try simp only [put9T, List.set]
                    refine wpAnyH_ready (rs := [14]) (by kernel_rfl) (by simp) ?_
                    refine AllReadyH.cons rfl (fun K hK => ?_) AllReadyH.nil
                    rw [if_pos (by rfl)]
                    refine wp_mapUpdate_int wf (.tmp 169) (.tmp 180) (.tmp 182) 50 (by rfl) 9 3 mlaw Tryz.underlying50 _ w9.heap.size k (mapOf (LK t u k)) (by rfl) hOM (by unfold maxLen; omega) (.string (F ++ ⟨#[47]⟩ ++ ikB y)) (.int .i64 (IntKind.i64.wrap (cc + 1))) (klF t u k) (by rfl) (by rfl) hkey _ [] (plainElem_int Tryz.underlying3 (wrap_wfI _)) ?_
                    intro wg hOM2 hg2
                    have hB2 := hB.grown hg2 hB.size (fun j hj => by cases hj; exact hBn)
                    have hS2 : wg.cell? ⟨fb, fof, none⟩ = some (.string F) ∧ wg.cell? ⟨yb, yof, none⟩ = some (.bool (zb y)) ∧ wg.cell? ⟨yb, yof + 1, none⟩ = some (.string (zs y)) ∧ wg.cell? ⟨p, 0, none⟩ = some (.slice (some ⟨fb, fof, none⟩) 1 fc) ∧ wg.cell? ⟨p, 2, none⟩ = some (.slice (some ⟨yb, yof, none⟩) 1 yc) := ⟨hOM.cell_keep hg2 hS1.1, hOM.cell_keep hg2 hS1.2.1, hOM.cell_keep hg2 hS1.2.2.1, hOM.cell_keep hg2 hS1.2.2.2.1, hOM.cell_keep hg2 hS1.2.2.2.2⟩
                    refine hK.out _ _ hS2 (fun hT => ?_)
                    clear hK hT
                    try simp only [put9T, List.set]
                    refine wpAnyH_done (by kernel_rfl) ?_ _
                    have hct := ctOf_eq hat
                    have hOM3 : OM wg w9.heap.size (k + 1) (mapOf (LK t u (k + 1))) := by
                      rw [LK_succ, mapOf_snoc]
                      unfold bump
                      rw [hct]
                      exact hOM2
                    clear hOM2 hS1 hS2 hct hat hg2 hOM hB
                    go_wp2_with fail
                    have hwk : IntKind.u64.wrap ((k : Int) + 1) = ((k + 1 : Nat) : Int) := by rw [IntKind.wrap_u64]; omega
                    exact ⟨⟨k + 1, by omega, by go_num, hOM3, hB2⟩, by simp [intOf]; omega⟩
                · obtain rfl : k = 2 * t - 1 := by omega
                  have hlI : ¬ (((2 * t - 1 : Nat) : Int) < ((2 * t - 1 : Nat) : Int)) := by omega
                  rw [hD] at hOM
                  have hM1' := hM1.below (hB.mono hBn) hM1.lt
                  have HSC := Lib.hid (sameCounts_any b1 w9.heap.size n1 (2 * t - 1) D wr hM1' hOM)
                  have hbe := hbw.trans (hB.mono hbw.size)
                  clear HSIM u0 u1 x0 x1 x2 hM1 hOM hM1' hB
                  go_wp2_with fail
                  refine HSC.out.mono ?_; rintro e wz ⟨rfl, bz⟩
                  go_wp2_with fail
                  go_ret
                  exact ⟨rfl, hbe.trans (bz.mono hbe.size)⟩
end Go.Proofs.YtapmeiaonnnmdaaGreatDoor
