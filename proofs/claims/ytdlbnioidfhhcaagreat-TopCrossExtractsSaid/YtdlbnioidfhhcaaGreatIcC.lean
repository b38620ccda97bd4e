import Derived.Test.YtdlbnioidfhhcaaGreatIcB
import Derived.Laws.AppendOwn
/- intcommit: the first closure of Equal. -/
namespace Go.Proofs.YtdlbnioidfhhcaaGreat
open Go.RowKit Num
set_option maxRecDepth 20000
set_option linter.unusedVariables false
section
variable {P : Program} {ops : Array Oper} {Q : Exit → Act → World → Prop} {S : World → Prop} {md : Region.Mode}
theorem tkT {oi : Oper} {fuel : Nat} {listed : Array Bool} {a : Act} {w : World} (i d : Nat) (v : Value) (hi : ops[i]? = some oi) (hd : oi.dst = some d)
    (hk : (Region.noSelect ops && (Region.free md ops listed i && (Region.ready md ops listed).contains i)) = true)
    (hQ : ∀ c t u ds w, Q (.panic c) ⟨t, ds⟩ w → Q (.panic c) ⟨u, ds⟩ w) (hy : YieldsIf P ops S oi v a) (hS : S w)
    (h : wpAnyH P md ops Q S fuel (listed.setIfInBounds i true) (a.put (some d) v) w) : wpAnyH P md ops Q S (fuel + 1) listed a w := by
  rw [Bool.and_eq_true, Bool.and_eq_true] at hk
  exact wpAnyH_take hi hk.1 hk.2.1 hk.2.2 (fun c a w h => by rw [hd] at h; exact hQ c (a.put (some d) v).tmps a.tmps a.defers w h) hy hS (by rw [hd]; exact h)
end
theorem put9T (l : List Value) (ds) (i : Nat) (v : Value) : Act.put ⟨⟨l⟩, ds⟩ (some i) v = ⟨⟨l.set i v⟩, ds⟩ := by simp [Act.put]
/-- a row of another block stays -/
theorem own_stayB {W W' : World} {K e s n g c : Nat} {v2 : Value} {xs : List Value} (h : W.ownsRow K e s (.slice (some ⟨g, 0, none⟩) n c) n xs) (hg : W.grownBy W' v2.ownBlock) (hne : v2.ownBlock ≠ some g) : W'.ownsRow K e s (.slice (some ⟨g, 0, none⟩) n c) n xs := by
  have hl := (h.lt g rfl).2
  rcases h with ⟨h0, h | ⟨q, cap, cur, h1, h2, h3, h4⟩⟩
  · exact ⟨h0, .inl h⟩
  · injection h1 with e1 e2 e3
    injection e1 with e1
    injection e1 with e1
    subst e1
    exact ⟨h0, .inr ⟨g, cap, cur, by rw [e3], h2, (hg.block g hl (fun e => hne e.symm)).trans h3, h4⟩⟩
set_option maxHeartbeats 8000000 in
theorem eqc1_any (pm pw pa pb pv pr : Nat) (M O G H M' O' G' H' A B V R : ByteArray) (w : World) (hY : KYB w pm M O G H) (hZ : KYB w pw M' O' G' H')
    (a0 : w.cell? ⟨pa, 0, none⟩ = some (.string A)) (a1 : w.cell? ⟨pb, 0, none⟩ = some (.string B)) (a2 : w.cell? ⟨pv, 0, none⟩ = some (.string V)) (a3 : w.cell? ⟨pr, 0, none⟩ = some (.string R)) :
    Calls Tryz.prog 13 #[.pointer (some ⟨pm, 0, none⟩), .pointer (some ⟨pw, 0, none⟩), .pointer (some ⟨pa, 0, none⟩), .pointer (some ⟨pb, 0, none⟩), .pointer (some ⟨pv, 0, none⟩), .pointer (some ⟨pr, 0, none⟩)] w fun e w' =>
      e = .returned (.int .i64 (if (([M, O, G, H] ++ [M', O', G', H']) ++ [A, B, V, R]).all validB = true then 0 else 3)) ∧ Below w.heap.size w w' := by
  have c0 := hY.c0
  have c1 := hY.c1
  have c2 := hY.c2
  have c3 := hY.c3
  have d0 := hZ.c0
  have d1 := hZ.c1
  have d2 := hZ.c2
  have d3 := hZ.c3
  have HN1 := Lib.hid (fun w' => inumbers_any M O G H w')
  have HN2 := Lib.hid (fun w' => inumbers_any M' O' G' H' w')
  have HF := Lib.hid (fun (ao : Option Addr) (c : Nat) (w' : World) (h : NS w' ao (([M, O, G, H] ++ [M', O', G', H']) ++ [A, B, V, R])) => iformed_any ao c 12 _ w' h rfl (by unfold maxLen; omega))
  obtain ⟨E, hE⟩ : ∃ E : Int, (if (([M, O, G, H] ++ [M', O', G', H']) ++ [A, B, V, R]).all validB = true then 0 else 3) = E := ⟨_, rfl⟩
  rw [hE] at HF ⊢
  obtain ⟨i0, hy, hy0, hy1, hy2⟩ := info_parts info_nat
  clear hY hZ hE
  go_enter Tryz.func13, Tryz.ntmps13
  go_upto_region 1 with fail
  -- @R1
  refine wp_region_held_drew (S := fun w' => Below w.heap.size w w') (by kernel_rfl) (Below.refl _ w).drew (fun hS' => ?_)
  refine tkT 0 7 (.agg #[.string M, .string O, .string G, .string H]) rfl rfl (by kernel_rfl) (fun _ _ _ _ _ h => h) (.inl ⟨by rfl, fun w' hSw => (by have gc0 := cells_keepL hSw (Nat.le_refl _) _ _ c0; have gc1 := cells_keepL hSw (Nat.le_refl _) _ _ c1; have gc2 := cells_keepL hSw (Nat.le_refl _) _ _ c2; have gc3 := cells_keepL hSw (Nat.le_refl _) _ _ c3; go_simp)⟩) (by assumption) ?_
  try simp only [put9T, List.set]
  refine tkT 2 9 (.agg #[.string M', .string O', .string G', .string H']) rfl rfl (by kernel_rfl) (fun _ _ _ _ _ h => h) (.inl ⟨by rfl, fun w' hSw => (by have gd0 := cells_keepL hSw (Nat.le_refl _) _ _ d0; have gd1 := cells_keepL hSw (Nat.le_refl _) _ _ d1; have gd2 := cells_keepL hSw (Nat.le_refl _) _ _ d2; have gd3 := cells_keepL hSw (Nat.le_refl _) _ _ d3; go_simp)⟩) (by assumption) ?_
  try simp only [put9T, List.set]
  refine tkT 5 12 (.string A) rfl rfl (by kernel_rfl) (fun _ _ _ _ _ h => h) (.inl ⟨by rfl, fun w' hSw => (by have ga0 := cells_keepL hSw (Nat.le_refl _) _ _ a0; go_simp)⟩) (by assumption) ?_
  try simp only [put9T, List.set]
  refine tkT 6 13 (.string B) rfl rfl (by kernel_rfl) (fun _ _ _ _ _ h => h) (.inl ⟨by rfl, fun w' hSw => (by have ga1 := cells_keepL hSw (Nat.le_refl _) _ _ a1; go_simp)⟩) (by assumption) ?_
  try simp only [put9T, List.set]
  refine tkT 7 14 (.string V) rfl rfl (by kernel_rfl) (fun _ _ _ _ _ h => h) (.inl ⟨by rfl, fun w' hSw => (by have ga2 := cells_keepL hSw (Nat.le_refl _) _ _ a2; go_simp)⟩) (by assumption) ?_
  try simp only [put9T, List.set]
  refine tkT 8 15 (.string R) rfl rfl (by kernel_rfl) (fun _ _ _ _ _ h => h) (.inl ⟨by rfl, fun w' hSw => (by have ga3 := cells_keepL hSw (Nat.le_refl _) _ _ a3; go_simp)⟩) (by assumption) ?_
  try simp only [put9T, List.set]
  have b0 : Below w.heap.size w w.drew := (Below.refl _ w).drew
  generalize w.drew = W0 at b0 hS' ⊢
  refine wpAnyH_ready (rs := [1, 9]) (by kernel_rfl) (by simp) ?_
  refine AllReadyH.cons rfl (fun K hK => ?_) (AllReadyH.cons rfl (fun K hK => ?_) AllReadyH.nil)
  · rw [if_pos (by rfl)]
    go_simp
    go_at_call 15
    refine (HN1.out _).mono ?_; rintro e W1 ⟨⟨b1, rfl, h1⟩, kb⟩
    replace h1 := own_weakK h1 b0.size
    replace b0 := b0.trans (kb.mono b0.size)
    clear kb
    refine hK.out _ _ b0 (fun hS' => ?_)
    clear hK
    try simp only [put9T, List.set]
    refine wpAnyH_ready (rs := [3, 9]) (by kernel_rfl) (by simp) ?_
    refine AllReadyH.cons rfl (fun K hK => ?_) (AllReadyH.cons rfl (fun K hK => ?_) AllReadyH.nil)
    · rw [if_pos (by rfl)]
      go_simp
      go_at_call 15
      refine (HN2.out _).mono ?_; rintro e W2 ⟨⟨b2, rfl, h2⟩, kb⟩
      replace h1 := own_keepL kb h1
      replace h2 := own_weakK h2 b0.size
      replace b0 := b0.trans (kb.mono b0.size)
      clear kb
      refine hK.out _ _ b0 (fun hS' => ?_)
      clear hK
      try simp only [put9T, List.set]
      refine wpAnyH_ready (rs := [4, 9]) (by kernel_rfl) (by simp) ?_
      refine AllReadyH.cons rfl (fun K hK => ?_) (AllReadyH.cons rfl (fun K hK => ?_) AllReadyH.nil)
      · rw [if_pos (by rfl)]
        refine wp_append_own _ (.tmp 8) (.tmp 10) 31 (by rfl) w.heap.size 22 i0 (.string ⟨#[]⟩) 1 16 Tryz.underlying31 hy hy0 hy1 hy2 rfl (by decide) (.slice (some ⟨b1, 0, none⟩) 4 4) 4 ([M, O, G, H].map Value.string) (by rfl) h1 ⟨b2, 0, none⟩ 4 4 ([M', O', G', H'].map Value.string) (by rfl) rfl (fun j u hu => h2.cells (g := b2) rfl j u hu) (by simp [Value.oneCell']) (by unfold maxLen; omega) (by omega) b0.size ?_
        intro v3 W3 h3 hg _
        replace b0 := b0.grown hg b0.size (fun q e => (own_ge h1 q e).1)
        clear hg h1 h2
        rw [← List.map_append] at h3
        refine hK.out _ _ b0 (fun hS' => ?_)
        clear hK
        try simp only [put9T, List.set]
        refine wpAnyH_ready (rs := [9]) (by kernel_rfl) (by simp) ?_
        refine AllReadyH.cons rfl (fun K hK => ?_) AllReadyH.nil
        rw [if_pos (by rfl)]
        go_simp
        have kb := (Below.refl _ W3).alloc (Nat.le_refl _) (.cells #[.string A, .string B, .string V, .string R] 22)
        replace h3 := own_keepL kb h3
        have hq := own_weakK (own_four W3 A B V R) b0.size
        replace b0 := b0.trans (kb.mono b0.size)
        clear kb
        refine hK.out _ _ b0 (fun hS' => ?_)
        clear hK
        try simp only [put9T, List.set]
        generalize h9 : W3.heap.size = b9 at hq ⊢
        clear h9
        generalize World.alloc W3 _ = W4 at h3 hq b0 hS' ⊢
        refine wpAnyH_ready (rs := [10]) (by kernel_rfl) (by simp) ?_
        refine AllReadyH.cons rfl (fun K hK => ?_) AllReadyH.nil
        rw [if_pos (by rfl)]
        refine wp_append_own _ (.tmp 11) (.tmp 16) 31 (by rfl) w.heap.size 22 i0 (.string ⟨#[]⟩) 1 16 Tryz.underlying31 hy hy0 hy1 hy2 rfl (by decide) v3 8 (([M, O, G, H] ++ [M', O', G', H']).map Value.string) (by rfl) h3 ⟨b9, 0, none⟩ 4 4 ([A, B, V, R].map Value.string) (by rfl) rfl (fun j u hu => hq.cells (g := b9) rfl j u hu) (by simp [Value.oneCell']) (by unfold maxLen; omega) (by omega) b0.size ?_
        intro v4 W5 h4 hg _
        replace b0 := b0.grown hg b0.size (fun q e => (own_ge h3 q e).1)
        clear hg h3 hq
        rw [← List.map_append] at h4
        obtain ⟨ao, c, rfl, hN⟩ := own_NS h4
        clear h4
        refine hK.out _ _ b0 (fun hS' => ?_)
        clear hK
        try simp only [put9T, List.set]
        refine wpAnyH_ready (rs := [11]) (by kernel_rfl) (by simp) ?_
        refine AllReadyH.cons rfl (fun K hK => ?_) AllReadyH.nil
        rw [if_pos (by rfl)]
        go_simp
        go_at_call 14
        refine (HF.out _ _ _ hN).mono ?_; rintro e W6 ⟨rfl, kb⟩
        replace b0 := b0.trans (kb.mono b0.size)
        clear kb hN
        refine hK.out _ _ b0 (fun hS' => ?_)
        clear hK
        try simp only [put9T, List.set]
        refine tkT 12 6 (.int .i64 E) rfl rfl (by kernel_rfl) (fun _ _ _ _ _ h => h) (.inl ⟨by rfl, fun w' hSw => (by go_simp)⟩) (by assumption) ?_
        try simp only [put9T, List.set]
        refine wpAnyH_done (by kernel_rfl) ?_ _
        clear hS'
        go_wp2_with fail
        go_ret
        exact ⟨rfl, b0⟩
      · rw [if_pos (by rfl)]
        go_simp
        have kb := (Below.refl _ W2).alloc (Nat.le_refl _) (.cells #[.string A, .string B, .string V, .string R] 22)
        have hl1 := (h1.lt b1 rfl).2
        replace h1 := own_keepL kb h1
        replace h2 := own_keepL kb h2
        have hq := own_weakK (own_four W2 A B V R) b0.size
        replace b0 := b0.trans (kb.mono b0.size)
        clear kb
        refine hK.out _ _ b0 (fun hS' => ?_)
        clear hK
        try simp only [put9T, List.set]
        generalize h9 : W2.heap.size = b9 at hq ⊢
        have hne : b1 ≠ b9 := by rw [← h9]; exact Nat.ne_of_lt hl1
        clear h9
        generalize World.alloc W2 _ = W3 at h1 h2 hq b0 hS' ⊢
        refine wpAnyH_ready (rs := [4]) (by kernel_rfl) (by simp) ?_
        refine AllReadyH.cons rfl (fun K hK => ?_) AllReadyH.nil
        rw [if_pos (by rfl)]
        refine wp_append_own _ (.tmp 8) (.tmp 10) 31 (by rfl) w.heap.size 22 i0 (.string ⟨#[]⟩) 1 16 Tryz.underlying31 hy hy0 hy1 hy2 rfl (by decide) (.slice (some ⟨b1, 0, none⟩) 4 4) 4 ([M, O, G, H].map Value.string) (by rfl) h1 ⟨b2, 0, none⟩ 4 4 ([M', O', G', H'].map Value.string) (by rfl) rfl (fun j u hu => h2.cells (g := b2) rfl j u hu) (by simp [Value.oneCell']) (by unfold maxLen; omega) (by omega) b0.size ?_
        intro v3 W4 h3 hg _
        replace hq := own_stayB hq hg (fun e => hne (by simpa [Value.ownBlock] using e))
        replace b0 := b0.grown hg b0.size (fun q e => (own_ge h1 q e).1)
        clear hg h1 h2
        rw [← List.map_append] at h3
        refine hK.out _ _ b0 (fun hS' => ?_)
        clear hK
        try simp only [put9T, List.set]
        refine wpAnyH_ready (rs := [10]) (by kernel_rfl) (by simp) ?_
        refine AllReadyH.cons rfl (fun K hK => ?_) AllReadyH.nil
        rw [if_pos (by rfl)]
        refine wp_append_own _ (.tmp 11) (.tmp 16) 31 (by rfl) w.heap.size 22 i0 (.string ⟨#[]⟩) 1 16 Tryz.underlying31 hy hy0 hy1 hy2 rfl (by decide) v3 8 (([M, O, G, H] ++ [M', O', G', H']).map Value.string) (by rfl) h3 ⟨b9, 0, none⟩ 4 4 ([A, B, V, R].map Value.string) (by rfl) rfl (fun j u hu => hq.cells (g := b9) rfl j u hu) (by simp [Value.oneCell']) (by unfold maxLen; omega) (by omega) b0.size ?_
        intro v4 W5 h4 hg _
        replace b0 := b0.grown hg b0.size (fun q e => (own_ge h3 q e).1)
        clear hg h3 hq
        rw [← List.map_append] at h4
        obtain ⟨ao, c, rfl, hN⟩ := own_NS h4
        clear h4
        refine hK.out _ _ b0 (fun hS' => ?_)
        clear hK
        try simp only [put9T, List.set]
        refine wpAnyH_ready (rs := [11]) (by kernel_rfl) (by simp) ?_
        refine AllReadyH.cons rfl (fun K hK => ?_) AllReadyH.nil
        rw [if_pos (by rfl)]
        go_simp
        go_at_call 14
        refine (HF.out _ _ _ hN).mono ?_; rintro e W6 ⟨rfl, kb⟩
        replace b0 := b0.trans (kb.mono b0.size)
        clear kb hN
        refine hK.out _ _ b0 (fun hS' => ?_)
        clear hK
        try simp only [put9T, List.set]
        refine tkT 12 6 (.int .i64 E) rfl rfl (by kernel_rfl) (fun _ _ _ _ _ h => h) (.inl ⟨by rfl, fun w' hSw => (by go_simp)⟩) (by assumption) ?_
        try simp only [put9T, List.set]
        refine wpAnyH_done (by kernel_rfl) ?_ _
        clear hS'
        go_wp2_with fail
        go_ret
        exact ⟨rfl, b0⟩
    · rw [if_pos (by rfl)]
      go_simp
      have kb := (Below.refl _ W1).alloc (Nat.le_refl _) (.cells #[.string A, .string B, .string V, .string R] 22)
      have hl1 := (h1.lt b1 rfl).2
      replace h1 := own_keepL kb h1
      have hq := own_weakK (own_four W1 A B V R) b0.size
      replace b0 := b0.trans (kb.mono b0.size)
      clear kb
      refine hK.out _ _ b0 (fun hS' => ?_)
      clear hK
      try simp only [put9T, List.set]
      generalize h9 : W1.heap.size = b9 at hq ⊢
      have hne : b1 ≠ b9 := by rw [← h9]; exact Nat.ne_of_lt hl1
      clear h9
      generalize World.alloc W1 _ = W2 at h1 hq b0 hS' ⊢
      refine wpAnyH_ready (rs := [3]) (by kernel_rfl) (by simp) ?_
      refine AllReadyH.cons rfl (fun K hK => ?_) AllReadyH.nil
      rw [if_pos (by rfl)]
      go_simp
      go_at_call 15
      refine (HN2.out _).mono ?_; rintro e W3 ⟨⟨b2, rfl, h2⟩, kb⟩
      replace h1 := own_keepL kb h1
      replace hq := own_keepL kb hq
      replace h2 := own_weakK h2 b0.size
      replace b0 := b0.trans (kb.mono b0.size)
      clear kb
      refine hK.out _ _ b0 (fun hS' => ?_)
      clear hK
      try simp only [put9T, List.set]
      refine wpAnyH_ready (rs := [4]) (by kernel_rfl) (by simp) ?_
      refine AllReadyH.cons rfl (fun K hK => ?_) AllReadyH.nil
      rw [if_pos (by rfl)]
      refine wp_append_own _ (.tmp 8) (.tmp 10) 31 (by rfl) w.heap.size 22 i0 (.string ⟨#[]⟩) 1 16 Tryz.underlying31 hy hy0 hy1 hy2 rfl (by decide) (.slice (some ⟨b1, 0, none⟩) 4 4) 4 ([M, O, G, H].map Value.string) (by rfl) h1 ⟨b2, 0, none⟩ 4 4 ([M', O', G', H'].map Value.string) (by rfl) rfl (fun j u hu => h2.cells (g := b2) rfl j u hu) (by simp [Value.oneCell']) (by unfold maxLen; omega) (by omega) b0.size ?_
      intro v3 W4 h3 hg _
      replace hq := own_stayB hq hg (fun e => hne (by simpa [Value.ownBlock] using e))
      replace b0 := b0.grown hg b0.size (fun q e => (own_ge h1 q e).1)
      clear hg h1 h2
      rw [← List.map_append] at h3
      refine hK.out _ _ b0 (fun hS' => ?_)
      clear hK
      try simp only [put9T, List.set]
      refine wpAnyH_ready (rs := [10]) (by kernel_rfl) (by simp) ?_
      refine AllReadyH.cons rfl (fun K hK => ?_) AllReadyH.nil
      rw [if_pos (by rfl)]
      refine wp_append_own _ (.tmp 11) (.tmp 16) 31 (by rfl) w.heap.size 22 i0 (.string ⟨#[]⟩) 1 16 Tryz.underlying31 hy hy0 hy1 hy2 rfl (by decide) v3 8 (([M, O, G, H] ++ [M', O', G', H']).map Value.string) (by rfl) h3 ⟨b9, 0, none⟩ 4 4 ([A, B, V, R].map Value.string) (by rfl) rfl (fun j u hu => hq.cells (g := b9) rfl j u hu) (by simp [Value.oneCell']) (by unfold maxLen; omega) (by omega) b0.size ?_
      intro v4 W5 h4 hg _
      replace b0 := b0.grown hg b0.size (fun q e => (own_ge h3 q e).1)
      clear hg h3 hq
      rw [← List.map_append] at h4
      obtain ⟨ao, c, rfl, hN⟩ := own_NS h4
      clear h4
      refine hK.out _ _ b0 (fun hS' => ?_)
      clear hK
      try simp only [put9T, List.set]
      refine wpAnyH_ready (rs := [11]) (by kernel_rfl) (by simp) ?_
      refine AllReadyH.cons rfl (fun K hK => ?_) AllReadyH.nil
      rw [if_pos (by rfl)]
      go_simp
      go_at_call 14
      refine (HF.out _ _ _ hN).mono ?_; rintro e W6 ⟨rfl, kb⟩
      replace b0 := b0.trans (kb.mono b0.size)
      clear kb hN
      refine hK.out _ _ b0 (fun hS' => ?_)
      clear hK
      try simp only [put9T, List.set]
      refine tkT 12 6 (.int .i64 E) rfl rfl (by kernel_rfl) (fun _ _ _ _ _ h => h) (.inl ⟨by rfl, fun w' hSw => (by go_simp)⟩) (by assumption) ?_
      try simp only [put9T, List.set]
      refine wpAnyH_done (by kernel_rfl) ?_ _
      clear hS'
      go_wp2_with fail
      go_ret
      exact ⟨rfl, b0⟩
  · rw [if_pos (by rfl)]
    go_simp
    have kb := (Below.refl _ W0).alloc (Nat.le_refl _) (.cells #[.string A, .string B, .string V, .string R] 22)
    have hq := own_weakK (own_four W0 A B V R) b0.size
    replace b0 := b0.trans (kb.mono b0.size)
    clear kb
    refine hK.out _ _ b0 (fun hS' => ?_)
    clear hK
    try simp only [put9T, List.set]
    generalize h9 : W0.heap.size = b9 at hq ⊢
    clear h9
    generalize World.alloc W0 _ = W1 at hq b0 hS' ⊢
    refine wpAnyH_ready (rs := [1]) (by kernel_rfl) (by simp) ?_
    refine AllReadyH.cons rfl (fun K hK => ?_) AllReadyH.nil
    rw [if_pos (by rfl)]
    go_simp
    go_at_call 15
    refine (HN1.out _).mono ?_; rintro e W2 ⟨⟨b1, rfl, h1⟩, kb⟩
    have hne : b1 ≠ b9 := Nat.ne_of_gt (Nat.lt_of_lt_of_le (hq.lt b9 rfl).2 (h1.lt b1 rfl).1)
    replace hq := own_keepL kb hq
    replace h1 := own_weakK h1 b0.size
    replace b0 := b0.trans (kb.mono b0.size)
    clear kb
    refine hK.out _ _ b0 (fun hS' => ?_)
    clear hK
    try simp only [put9T, List.set]
    refine wpAnyH_ready (rs := [3]) (by kernel_rfl) (by simp) ?_
    refine AllReadyH.cons rfl (fun K hK => ?_) AllReadyH.nil
    rw [if_pos (by rfl)]
    go_simp
    go_at_call 15
    refine (HN2.out _).mono ?_; rintro e W3 ⟨⟨b2, rfl, h2⟩, kb⟩
    replace hq := own_keepL kb hq
    replace h1 := own_keepL kb h1
    replace h2 := own_weakK h2 b0.size
    replace b0 := b0.trans (kb.mono b0.size)
    clear kb
    refine hK.out _ _ b0 (fun hS' => ?_)
    clear hK
    try simp only [put9T, List.set]
    refine wpAnyH_ready (rs := [4]) (by kernel_rfl) (by simp) ?_
    refine AllReadyH.cons rfl (fun K hK => ?_) AllReadyH.nil
    rw [if_pos (by rfl)]
    refine wp_append_own _ (.tmp 8) (.tmp 10) 31 (by rfl) w.heap.size 22 i0 (.string ⟨#[]⟩) 1 16 Tryz.underlying31 hy hy0 hy1 hy2 rfl (by decide) (.slice (some ⟨b1, 0, none⟩) 4 4) 4 ([M, O, G, H].map Value.string) (by rfl) h1 ⟨b2, 0, none⟩ 4 4 ([M', O', G', H'].map Value.string) (by rfl) rfl (fun j u hu => h2.cells (g := b2) rfl j u hu) (by simp [Value.oneCell']) (by unfold maxLen; omega) (by omega) b0.size ?_
    intro v3 W4 h3 hg _
    replace hq := own_stayB hq hg (fun e => hne (by simpa [Value.ownBlock] using e))
    replace b0 := b0.grown hg b0.size (fun q e => (own_ge h1 q e).1)
    clear hg h1 h2
    rw [← List.map_append] at h3
    refine hK.out _ _ b0 (fun hS' => ?_)
    clear hK
    try simp only [put9T, List.set]
    refine wpAnyH_ready (rs := [10]) (by kernel_rfl) (by simp) ?_
    refine AllReadyH.cons rfl (fun K hK => ?_) AllReadyH.nil
    rw [if_pos (by rfl)]
    refine wp_append_own _ (.tmp 11) (.tmp 16) 31 (by rfl) w.heap.size 22 i0 (.string ⟨#[]⟩) 1 16 Tryz.underlying31 hy hy0 hy1 hy2 rfl (by decide) v3 8 (([M, O, G, H] ++ [M', O', G', H']).map Value.string) (by rfl) h3 ⟨b9, 0, none⟩ 4 4 ([A, B, V, R].map Value.string) (by rfl) rfl (fun j u hu => hq.cells (g := b9) rfl j u hu) (by simp [Value.oneCell']) (by unfold maxLen; omega) (by omega) b0.size ?_
    intro v4 W5 h4 hg _
    replace b0 := b0.grown hg b0.size (fun q e => (own_ge h3 q e).1)
    clear hg h3 hq
    rw [← List.map_append] at h4
    obtain ⟨ao, c, rfl, hN⟩ := own_NS h4
    clear h4
    refine hK.out _ _ b0 (fun hS' => ?_)
    clear hK
    try simp only [put9T, List.set]
    refine wpAnyH_ready (rs := [11]) (by kernel_rfl) (by simp) ?_
    refine AllReadyH.cons rfl (fun K hK => ?_) AllReadyH.nil
    rw [if_pos (by rfl)]
    go_simp
    go_at_call 14
    refine (HF.out _ _ _ hN).mono ?_; rintro e W6 ⟨rfl, kb⟩
    replace b0 := b0.trans (kb.mono b0.size)
    clear kb hN
    refine hK.out _ _ b0 (fun hS' => ?_)
    clear hK
    try simp only [put9T, List.set]
    refine tkT 12 6 (.int .i64 E) rfl rfl (by kernel_rfl) (fun _ _ _ _ _ h => h) (.inl ⟨by rfl, fun w' hSw => (by go_simp)⟩) (by assumption) ?_
    try simp only [put9T, List.set]
    refine wpAnyH_done (by kernel_rfl) ?_ _
    clear hS'
    go_wp2_with fail
    go_ret
    exact ⟨rfl, b0⟩
  -- @@R1
end Go.Proofs.YtdlbnioidfhhcaaGreat
