import Derived.Test.YtjminjliomffaaaDoorCeS
import Derived.Test.YtjminjliomffaaaDoorRfA
/- dominolaw07: the examples of the chapter. -/
namespace Go.Proofs.YtjminjliomffaaaDoor
open Go.RowKit Num
set_option maxRecDepth 20000
set_option linter.unusedVariables false
theorem cert_rows {R : List StR} (h : R.map stp = cert65537) : ∃ fa0 fc0 fa1 fc1, R = [(enc 2, ⟨#[]⟩, fa0, fc0, []), (enc 65537, enc 3, fa1, fc1, [0])] := by
  match R, h with
  | [(p0, a0, fa0, fc0, f0), (p1, a1, fa1, fc1, f1)], h =>
    unfold cert65537 at h
    simp [stp] at h
    obtain ⟨⟨rfl, rfl, rfl⟩, rfl, rfl, rfl⟩ := h
    exact ⟨fa0, fc0, fa1, fc1, rfl⟩
  | [], h => simp [cert65537] at h
  | [_], h => simp [cert65537] at h
  | _ :: _ :: _ :: _, h => simp [cert65537] at h
theorem law7num_any (n : Nat) (w : World) (hn : n < 18446744073709551616) :
    Calls Tryd.prog 18 #[.int .u64 (n : Int)] w fun e w' => e = .returned (.string (enc n)) ∧ Below w.heap.size w w' := by
  have HO := Lib.hid (fun w => refOf_any n w hn)
  go_enter Tryd.func18, Tryd.ntmps18
  go_wp2_with fail
  refine (HO.out _).mono ?_; rintro e w1 ⟨rfl, b1⟩
  go_wp2_with fail
  go_ret
  exact ⟨rfl, b1⟩
theorem keepCC {w0 w1 w2 : World} {B b o1 o2 : Nat} {v1 v2 v3 : Value} (h : w1.cell? ⟨B, 0, none⟩ = some v1 ∧ w1.cell? ⟨b, o1, none⟩ = some v2 ∧ w1.cell? ⟨b, o2, none⟩ = some v3 ∧ Below w0.heap.size w0 w1) (bn : Below w1.heap.size w1 w2) :
    w2.cell? ⟨B, 0, none⟩ = some v1 ∧ w2.cell? ⟨b, o1, none⟩ = some v2 ∧ w2.cell? ⟨b, o2, none⟩ = some v3 ∧ Below w0.heap.size w0 w2 :=
  ⟨cellB_keep h.1 bn, cellB_keep h.2.1 bn, cellB_keep h.2.2.1 bn, h.2.2.2.trans (bn.mono h.2.2.2.size)⟩
/-- the steps of the certificate that is not correct -/
def badR (S2 S3 S5 S91 : ByteArray) (q : Nat) : List StR := [(S2, ⟨#[]⟩, none, 0, []), (S3, ⟨#[]⟩, none, 0, []), (S5, ⟨#[]⟩, none, 0, []), (S91, S3, some ⟨q, 0, none⟩, 3, [0, 1, 2])]
theorem bad_facts (W : World) (S2 S3 S5 S91 : ByteArray) : Below W.heap.size W (((W.alloc (.cells #[.int .i64 0, .int .i64 1, .int .i64 2] 3)).alloc (.cells #[.string S2, .string ⟨#[]⟩, .slice none 0 0, .string S3, .string ⟨#[]⟩, .slice none 0 0, .string S5, .string ⟨#[]⟩, .slice none 0 0, .string S91, .string S3, .slice (some ⟨W.heap.size, 0, none⟩) 3 3] 44)).alloc (.cells #[.slice (some ⟨W.heap.size + 1, 0, none⟩) 4 4] 33)) ∧ CtB (((W.alloc (.cells #[.int .i64 0, .int .i64 1, .int .i64 2] 3)).alloc (.cells #[.string S2, .string ⟨#[]⟩, .slice none 0 0, .string S3, .string ⟨#[]⟩, .slice none 0 0, .string S5, .string ⟨#[]⟩, .slice none 0 0, .string S91, .string S3, .slice (some ⟨W.heap.size, 0, none⟩) 3 3] 44)).alloc (.cells #[.slice (some ⟨W.heap.size + 1, 0, none⟩) 4 4] 33)) (W.heap.size + 1 + 1) (.slice (some ⟨W.heap.size + 1, 0, none⟩) 4 4) ∧ CS (((W.alloc (.cells #[.int .i64 0, .int .i64 1, .int .i64 2] 3)).alloc (.cells #[.string S2, .string ⟨#[]⟩, .slice none 0 0, .string S3, .string ⟨#[]⟩, .slice none 0 0, .string S5, .string ⟨#[]⟩, .slice none 0 0, .string S91, .string S3, .slice (some ⟨W.heap.size, 0, none⟩) 3 3] 44)).alloc (.cells #[.slice (some ⟨W.heap.size + 1, 0, none⟩) 4 4] 33)) (some ⟨W.heap.size + 1, 0, none⟩) (badR S2 S3 S5 S91 W.heap.size) := by
  obtain ⟨w1, h1⟩ : ∃ w1, W.alloc (.cells #[.int .i64 0, .int .i64 1, .int .i64 2] 3) = w1 := ⟨_, rfl⟩
  have z1 : w1.heap.size = W.heap.size + 1 := by rw [← h1, World.size_alloc]
  have b1 : Below W.heap.size W w1 := by rw [← h1]; exact (Below.refl _ W).alloc (Nat.le_refl _) _
  have x1 : w1.heap[W.heap.size]? = some (.cells #[.int .i64 0, .int .i64 1, .int .i64 2] 3 (0, 0)) := by rw [← h1]; exact heap_alloc_new W _
  rw [h1, ← z1]
  obtain ⟨w2, h2⟩ : ∃ w2, w1.alloc (.cells #[.string S2, .string ⟨#[]⟩, .slice none 0 0, .string S3, .string ⟨#[]⟩, .slice none 0 0, .string S5, .string ⟨#[]⟩, .slice none 0 0, .string S91, .string S3, .slice (some ⟨W.heap.size, 0, none⟩) 3 3] 44) = w2 := ⟨_, rfl⟩
  have z2 : w2.heap.size = w1.heap.size + 1 := by rw [← h2, World.size_alloc]
  have b2 : Below w1.heap.size w1 w2 := by rw [← h2]; exact (Below.refl _ w1).alloc (Nat.le_refl _) _
  have x2 : w2.heap[w1.heap.size]? = some (.cells #[.string S2, .string ⟨#[]⟩, .slice none 0 0, .string S3, .string ⟨#[]⟩, .slice none 0 0, .string S5, .string ⟨#[]⟩, .slice none 0 0, .string S91, .string S3, .slice (some ⟨W.heap.size, 0, none⟩) 3 3] 44 (0, 0)) := by rw [← h2]; exact heap_alloc_new w1 _
  rw [h2, ← z2]
  obtain ⟨w3, h3⟩ : ∃ w3, w2.alloc (.cells #[.slice (some ⟨w1.heap.size, 0, none⟩) 4 4] 33) = w3 := ⟨_, rfl⟩
  have b3 : Below w2.heap.size w2 w3 := by rw [← h3]; exact (Below.refl _ w2).alloc (Nat.le_refl _) _
  have x3 : w3.heap[w2.heap.size]? = some (.cells #[.slice (some ⟨w1.heap.size, 0, none⟩) 4 4] 33 (0, 0)) := by rw [← h3]; exact heap_alloc_new w2 _
  rw [h3]
  have y1 : w3.heap[W.heap.size]? = some (.cells #[.int .i64 0, .int .i64 1, .int .i64 2] 3 (0, 0)) := by rw [b3.block _ (by omega), b2.block _ (by omega)]; exact x1
  have y2 := (b3.block w1.heap.size (by omega)).trans x2
  refine ⟨(b1.trans (b2.mono (by omega))).trans (b3.mono (by omega)), x3, fun k hk => ?_⟩
  have hk4 : k < 4 := hk
  refine ⟨w1.heap.size, 0, rfl, ?_, ?_, ?_, ?_⟩
  · rw [Lib.cell_of_heap y2]
    rcases k with _ | _ | _ | _ | k <;> first | rfl | omega
  · rw [Lib.cell_of_heap y2]
    rcases k with _ | _ | _ | _ | k <;> first | rfl | omega
  · rw [Lib.cell_of_heap y2]
    rcases k with _ | _ | _ | _ | k <;> first | rfl | omega
  · rcases k with _ | _ | _ | _ | k
    · exact FS.nil _ _
    · exact FS.nil _ _
    · exact FS.nil _ _
    · intro j hj
      have hj3 : j < 3 := hj
      refine ⟨W.heap.size, 0, rfl, ?_⟩
      rw [Lib.cell_of_heap y1]
      rcases j with _ | _ | _ | j <;> first | rfl | omega
    · omega
set_option maxHeartbeats 8000000 in
theorem awakeC (w : World) (hT : Tab w) : Calls Tryd.prog 11 #[] w fun e w' => e = .returned (.bool true) ∧ Below w.heap.size w w' := by
  obtain ⟨S2, h2⟩ : ∃ s, enc 2 = s := ⟨_, rfl⟩
  obtain ⟨S3, h3⟩ : ∃ s, enc 3 = s := ⟨_, rfl⟩
  obtain ⟨S5, h5⟩ : ∃ s, enc 5 = s := ⟨_, rfl⟩
  obtain ⟨S91, h91⟩ : ∃ s, enc 91 = s := ⟨_, rfl⟩
  obtain ⟨SN, hN⟩ : ∃ s, enc 65537 = s := ⟨_, rfl⟩
  have n2 : ∀ w, Calls Tryd.prog 18 #[.int .u64 2] w fun e w' => e = .returned (.string (enc 2)) ∧ Below w.heap.size w w' := fun w => law7num_any 2 w (by omega)
  have n3 : ∀ w, Calls Tryd.prog 18 #[.int .u64 3] w fun e w' => e = .returned (.string (enc 3)) ∧ Below w.heap.size w w' := fun w => law7num_any 3 w (by omega)
  have n5 : ∀ w, Calls Tryd.prog 18 #[.int .u64 5] w fun e w' => e = .returned (.string (enc 5)) ∧ Below w.heap.size w w' := fun w => law7num_any 5 w (by omega)
  have n91 : ∀ w, Calls Tryd.prog 18 #[.int .u64 91] w fun e w' => e = .returned (.string (enc 91)) ∧ Below w.heap.size w w' := fun w => law7num_any 91 w (by omega)
  have nN : ∀ w, Calls Tryd.prog 18 #[.int .u64 65537] w fun e w' => e = .returned (.string (enc 65537)) ∧ Below w.heap.size w w' := fun w => law7num_any 65537 w (by omega)
  rw [h2] at n2
  rw [h3] at n3
  rw [h5] at n5
  rw [h91] at n91
  rw [hN] at nN
  have n2 := Lib.hid n2
  have n3 := Lib.hid n3
  have n5 := Lib.hid n5
  have n91 := Lib.hid n91
  have nN := Lib.hid nN
  have HE := Lib.hid (And.intro h2 (And.intro h3 (And.intro h5 (And.intro h91 hN))))
  have HF := (fun w h => ceFind_any (enc 65537) w h)
  rw [hN] at HF
  have HF := Lib.hid HF
  clear h2 h3 h5 h91 hN
  go_enter Tryd.func11, Tryd.ntmps11
  go_wp2_with fail
  refine (nN.out _).mono ?_; rintro e w1 ⟨rfl, b1⟩
  go_wp2_with fail
  have hT1 := hT.below b1
  refine (HF.out _ hT1).mono ?_
  rintro e w2 ⟨⟨a, r, c, R, E, rfl, hr, hCS, _, _, hFR⟩, b2⟩
  rw [← HE.out.2.2.2.2] at hFR
  obtain ⟨rfl, hL⟩ := find65537 hFR
  obtain ⟨fa0, fc0, fa1, fc1, hRR⟩ := cert_rows hL
  obtain rfl : r = 2 := by rw [← hr, hRR]; rfl
  replace b2 := b1.trans (b2.mono b1.size)
  have hT2 := hT.below b2
  have hS := CtB.new w2 (.slice a 2 c)
  have hq := (Below.refl _ w2).alloc (Nat.le_refl _) (.cells #[.slice a 2 c] 33)
  have b3 := b2.trans (hq.mono b2.size)
  have hCS3 := hCS.below hq (Nat.le_refl _)
  have hT3 := hT2.below hq
  clear hFR hCS hT1 hT2 b1 b2 hq HF
  subst hRR
  obtain ⟨b, off, rfl, x0, _, x2, _⟩ := hCS3 0 (by simp)
  obtain ⟨b', off', e', y0, y1, y2, _⟩ := hCS3 1 (by simp)
  injection e' with e'
  injection e' with e1 e2 _
  subst e1 e2
  simp only [List.getElem_cons_zero, List.getElem_cons_succ, List.length_nil, List.length_cons] at x0 x2 y0 y1 y2
  rw [HE.out.1] at x0
  rw [HE.out.2.1] at y1
  have HCS := Lib.hid hCS3
  have HT3 := Lib.hid hT3
  clear hCS3 hT3 y0
  go_wp2_with fail
  generalize w2.heap.size = B at hS ⊢
  generalize World.alloc _ _ = w3 at hS b3 HCS HT3 x0 x2 y1 y2 ⊢
  have c0 := hS.c0
  simp only [Nat.zero_mul, Nat.add_zero, Nat.one_mul] at x0 x2 y1 y2
  go_region_held3 (fun w' => w'.cell? ⟨B, 0, none⟩ = some (.slice (some ⟨b, off, none⟩) 2 c) ∧ w'.cell? ⟨b, off, none⟩ = some (.string S2) ∧ w'.cell? ⟨b, off + 2, none⟩ = some (.slice fa0 0 fc0) ∧ Below w3.heap.size w3 w')
    (first | exact ⟨c0, x0, x2, (Below.refl _ w3).drew⟩ | assumption | (refine keepCC ?_ bn; assumption))
    (first | (go_at_call 18; (with_reducible refine (n2.out _).mono ?_); rintro e w4 ⟨rfl, bn⟩))
  go_split_ands
  have b4 : Below w3.heap.size w3 w4 := by assumption
  have hS4 := hS.below b4 hS.lt
  have HCS4 := Lib.hid (HCS.out.below b4 (Nat.le_refl _))
  have HT4 := Lib.hid (HT3.out.below b4)
  have y1' := cellB_keep y1 b4
  have y2' := cellB_keep y2 b4
  have b5 := b3.trans (b4.mono b3.size)
  clear x0 x2 y1 y2 c0 HCS HT3 hS b3 bn
  have c0 := hS4.c0
  go_wp2_with fail
  go_region_held3 (fun w' => w'.cell? ⟨B, 0, none⟩ = some (.slice (some ⟨b, off, none⟩) 2 c) ∧ w'.cell? ⟨b, off + 3 + 1, none⟩ = some (.string S3) ∧ w'.cell? ⟨b, off + 3 + 2, none⟩ = some (.slice fa1 1 fc1) ∧ Below w4.heap.size w4 w')
    (first | exact ⟨c0, y1', y2', (Below.refl _ w4).drew⟩ | assumption | (refine keepCC ?_ bn; assumption))
    (first | (go_at_call 18; (with_reducible refine (n3.out _).mono ?_); rintro e w5 ⟨rfl, bn⟩))
  go_split_ands
  have b6 : Below w4.heap.size w4 w5 := by assumption
  have hS5 := hS4.below b6 hS4.lt
  have HCS5 := Lib.hid (HCS4.out.below b6 (Nat.le_refl _))
  have HT5 := Lib.hid (HT4.out.below b6)
  have b7 := b5.trans (b6.mono b5.size)
  clear y1' y2' c0 HCS4 HT4 hS4 b4 b5 b6 bn
  go_wp2_with fail
  refine (n2.out _).mono ?_; rintro e w6 ⟨rfl, q6⟩
  go_wp2_with fail
  refine (n3.out _).mono ?_; rintro e w7 ⟨rfl, q7⟩
  go_wp2_with fail
  refine (n5.out _).mono ?_; rintro e w8 ⟨rfl, q8⟩
  go_wp2_with fail
  refine (n91.out _).mono ?_; rintro e w9 ⟨rfl, q9⟩
  go_wp2_with fail
  refine (n3.out _).mono ?_; rintro e w10 ⟨rfl, q10⟩
  have q11 : Below w5.heap.size w5 w10 := (((q6.trans (q7.mono q6.size)).trans (q8.mono (q6.trans (q7.mono q6.size)).size)).trans (q9.mono ((q6.trans (q7.mono q6.size)).trans (q8.mono (q6.trans (q7.mono q6.size)).size)).size)).trans (q10.mono (((q6.trans (q7.mono q6.size)).trans (q8.mono (q6.trans (q7.mono q6.size)).size)).trans (q9.mono ((q6.trans (q7.mono q6.size)).trans (q8.mono (q6.trans (q7.mono q6.size)).size)).size)).size)
  clear q6 q7 q8 q9 q10
  have hbf := bad_facts w10 S2 S3 S5 S91
  obtain ⟨q12, d0, dR⟩ := hbf
  have q13 := q11.trans (q12.mono q11.size)
  have c0 := (hS5.below q13 hS5.lt).c0
  have hS13 := hS5.below q13 hS5.lt
  have HCS13 := Lib.hid (HCS5.out.below q13 (Nat.le_refl _))
  have HT13 := Lib.hid (HT5.out.below q13)
  have b13 := b7.trans (q13.mono b7.size)
  have HDR := Lib.hid dR
  clear dR q12 q13 HCS5 HT5 hS5 b7 q11
  have z10 : w10.heap.size + 1 < w10.heap.size + 1 + 1 := Nat.lt_succ_self _
  have hLS : ([(enc 2, ⟨#[]⟩, fa0, fc0, []), (enc 65537, enc 3, fa1, fc1, [0])] : List StR).map stp = cert65537 := hL
  have HPr := (fun W (h : CS W (some ⟨b, off, none⟩) [(enc 2, ⟨#[]⟩, fa0, fc0, []), (enc 65537, enc 3, fa1, fc1, [0])]) => cePrime_any (some ⟨b, off, none⟩) 2 c _ W h rfl (by unfold maxLen; simp))
  have hpr : prC (([(enc 2, ⟨#[]⟩, fa0, fc0, []), (enc 65537, enc 3, fa1, fc1, [0])] : List StR).map stp) = SN := by rw [hLS, pr65537]; exact HE.out.2.2.2.2
  rw [hpr] at HPr
  have z8 : ∀ n, n < 18446744073709551616 → (enc n).size ≤ maxLen := fun n hn => by rw [size_enc]; have := (blen_le_iff n 8).2 (by omega); unfold maxLen; omega
  have HCk := (fun W (hT : Tab W) (h : CS W (some ⟨b, off, none⟩) [(enc 2, ⟨#[]⟩, fa0, fc0, []), (enc 65537, enc 3, fa1, fc1, [0])]) => ceCheck_any (some ⟨b, off, none⟩) 2 c _ W hT h rfl (by unfold maxLen; simp) (fun x hx => by
    simp only [List.mem_cons, List.not_mem_nil, or_false] at hx
    rcases hx with rfl | rfl
    · exact ⟨z8 2 (by omega), Nat.zero_le _, Nat.zero_le _, fun n hn => by cases hn⟩
    · exact ⟨z8 65537 (by omega), z8 3 (by omega), by unfold maxLen; simp, fun n hn => by rw [List.mem_singleton.1 hn]; decide⟩))
  rw [hLS, ck65537] at HCk
  have hBS : ∀ q, (badR S2 S3 S5 S91 q).map stp = certBad := fun q => by
    unfold badR certBad
    rw [HE.out.1, HE.out.2.1, HE.out.2.2.1, HE.out.2.2.2.1]
    rfl
  have HCb := (fun q p W (hT : Tab W) (h : CS W p (badR S2 S3 S5 S91 q)) => ceCheck_any p 4 4 _ W hT h rfl (by unfold maxLen; show 4 ≤ _; omega) (fun x hx => by
    unfold badR at hx
    rw [← HE.out.1, ← HE.out.2.1, ← HE.out.2.2.1, ← HE.out.2.2.2.1] at hx
    simp only [List.mem_cons, List.not_mem_nil, or_false] at hx
    rcases hx with rfl | rfl | rfl | rfl
    · exact ⟨z8 2 (by omega), Nat.zero_le _, Nat.zero_le _, fun n hn => by cases hn⟩
    · exact ⟨z8 3 (by omega), Nat.zero_le _, Nat.zero_le _, fun n hn => by cases hn⟩
    · exact ⟨z8 5 (by omega), Nat.zero_le _, Nat.zero_le _, fun n hn => by cases hn⟩
    · exact ⟨z8 91 (by omega), z8 3 (by omega), by unfold maxLen; simp, fun n hn => by
        simp only [List.mem_cons, List.not_mem_nil, or_false] at hn
        rcases hn with rfl | rfl | rfl <;> decide⟩))
  simp only [hBS, ckBad] at HCb
  have HPr := Lib.hid HPr
  have HCk := Lib.hid HCk
  have HCb := Lib.hid HCb
  clear hLS hL hBS z8 hr hpr
  go_wp2_with fail
  generalize World.alloc _ _ = w13 at HDR d0 HCS13 HT13 hS13 b13 c0 ⊢
  refine (HPr.out _ HCS13.out).mono ?_; rintro e w14 ⟨rfl, p14⟩
  go_wp2_with fail
  refine (nN.out _).mono ?_; rintro e w15 ⟨rfl, p15⟩
  have p16 := p14.trans (p15.mono p14.size)
  have c0' := cellB_keep c0 p16
  go_wp2_with fail
  refine (HCk.out _ (HT13.out.below p16) (HCS13.out.below p16 (Nat.le_refl _))).mono ?_; rintro e w17 ⟨rfl, p17⟩
  have p18 := p16.trans (p17.mono p16.size)
  have d0' := (d0.below p18 d0.lt).c0
  go_wp2_with fail
  refine (HCb.out _ _ _ (HT13.out.below p18) (HDR.out.below p18 (Nat.le_refl _))).mono ?_; rintro e w19 ⟨rfl, p19⟩
  have p20 := b13.trans ((p18.trans (p19.mono p18.size)).mono b13.size)
  go_wp2_with fail
  go_ret
  exact ⟨rfl, p20⟩
end Go.Proofs.YtjminjliomffaaaDoor

/- dominolaw07: Few, isPrime; the law CertificateProves. -/
namespace Go.Proofs.YtjminjliomffaaaDoor
open Go.RowKit Num
set_option maxRecDepth 20000
set_option linter.unusedVariables false
set_option maxHeartbeats 4000000 in
theorem ceFew_any (a : Option Addr) (r c : Nat) (R : List StR) (w : World) (hR : CS w a R) (hr : R.length = r) (hbig : R.length ≤ maxLen) (hok : ∀ x ∈ R, x.ok) :
    Calls Tryd.prog 15 #[.agg #[.slice a r c]] w fun e w' => (∃ V, e = .returned (.bool V) ∧ (V = true → r ≤ 24)) ∧ Below w.heap.size w w' := by
  have hS := CtB.new w (.slice a r c)
  have hb := (Below.refl _ w).alloc (Nat.le_refl _) (.cells #[.slice a r c] 33)
  have HR := Lib.hid (hR.below hb (Nat.le_refl _))
  have HOK := Lib.hid hok
  have HN := Lib.hid hr
  have hbig2 : r ≤ maxLen := by rw [← hr]; exact hbig
  unfold maxLen at hbig2
  clear hR hok hr hbig
  go_enter Tryd.func15, Tryd.ntmps15
  go_wp2_with fail
  generalize World.alloc _ _ = w0 at hS hb HR ⊢
  go_loopw [3] (fun i wr => ∃ k : Nat, k ≤ 40 ∧ k ≤ r ∧ i = .int .i64 k ∧ Below w0.heap.size w0 wr) (fun i _ => 40 - (intOf i).toNat)
  case atStart => exact ⟨0, by omega, by omega, rfl, Below.refl _ _⟩
  case round =>
    obtain ⟨k, hk, hkr, rfl, hB⟩ := hrel
    have c0 := (hS.below hB hS.lt).c0
    have hBw := hb.trans (hB.mono hb.size)
    by_cases hlt : k < r ∧ k < 40
    · obtain ⟨h1, h2⟩ := hlt
      have hkR : k < R.length := by rw [HN.out]; exact h1
      have d1 : decide ((k : Int) < (r : Int)) = true := decide_eq_true (by omega)
      have d2 : decide ((k : Int) < 40) = true := decide_eq_true (by omega)
      obtain ⟨b, off, rfl, x0, x1, x2, _⟩ := (HR.out.below hB (Nat.le_refl _)) k hkR
      obtain ⟨o0, o1, o2, _⟩ := HOK.out _ (List.getElem_mem hkR)
      generalize R[k] = x at x0 x1 x2 o0 o1 o2
      obtain ⟨P, A, fa, fc, F⟩ := x
      simp only at x0 x1 x2 o0 o1 o2
      obtain ⟨n, hn⟩ : ∃ n, F.length = n := ⟨_, rfl⟩
      obtain ⟨ps, hps⟩ : ∃ n, P.size = n := ⟨_, rfl⟩
      obtain ⟨az, haz⟩ : ∃ n, A.size = n := ⟨_, rfl⟩
      rw [hn] at x2 o2
      rw [hps] at o0
      rw [haz] at o1
      unfold maxLen at o0 o1 o2
      have hSn := StB.new (P := .string P) (A := .string A) (v := .slice fa n fc) wr
      have q0 := hBw.alloc hBw.size (.cells #[.string P, .string A, .slice fa n fc] 44)
      have q1 := hB.alloc hB.size (.cells #[.string P, .string A, .slice fa n fc] 44)
      clear hn hSn
      by_cases t1 : 8 < ps
      · have e1 : decide ((8 : Int) < (ps : Int)) = true := decide_eq_true (by omega)
        go_wp2_with fail
        go_ret
        exact ⟨⟨_, rfl, fun h => by cases h⟩, q0⟩
      · have e1 : decide ((8 : Int) < (ps : Int)) = false := decide_eq_false (by omega)
        by_cases t2 : 9 < az
        · have e2 : decide ((9 : Int) < (az : Int)) = true := decide_eq_true (by omega)
          go_wp2_with fail
          go_ret
          exact ⟨⟨_, rfl, fun h => by cases h⟩, q0⟩
        · have e2 : decide ((9 : Int) < (az : Int)) = false := decide_eq_false (by omega)
          by_cases t3 : 20 < n
          · have e3 : decide ((20 : Int) < (n : Int)) = true := decide_eq_true (by omega)
            go_wp2_with fail
            go_ret
            exact ⟨⟨_, rfl, fun h => by cases h⟩, q0⟩
          · have e3 : decide ((20 : Int) < (n : Int)) = false := decide_eq_false (by omega)
            go_wp2_with fail
            exact ⟨⟨k + 1, by omega, by omega, by go_num, q1⟩, by simp [intOf]; omega⟩
    · have hV : ∀ V : Bool, V = decide ((r : Int) ≤ 24) → (V = true → r ≤ 24) := fun V h h2 => by rw [h] at h2; have := of_decide_eq_true h2; omega
      obtain ⟨V, hVV⟩ : ∃ V, decide ((r : Int) ≤ 24) = V := ⟨_, rfl⟩
      have HV := Lib.hid (hV V hVV.symm)
      clear hV
      by_cases h1 : k < r
      · have d1 : decide ((k : Int) < (r : Int)) = true := decide_eq_true (by omega)
        have d2 : decide ((k : Int) < 40) = false := decide_eq_false (by omega)
        go_wp2_with fail
        go_ret
        exact ⟨⟨_, rfl, HV.out⟩, hBw⟩
      · have d1 : decide ((k : Int) < (r : Int)) = false := decide_eq_false (by omega)
        go_wp2_with fail
        go_ret
        exact ⟨⟨_, rfl, HV.out⟩, hBw⟩
set_option maxHeartbeats 4000000 in
theorem ceIsPrime_any (n : Nat) (hn : n < 4294967296) (w : World) :
    Calls Tryd.prog 17 #[.int .u64 (n : Int)] w fun e w' => e = .returned (.bool (isB n)) ∧ w' = w := by
  have HN := Lib.hid hn
  obtain ⟨V, hV⟩ : ∃ V, isB n = V := ⟨_, rfl⟩
  rw [hV]
  have HV := Lib.hid hV
  clear hV
  go_enter Tryd.func17, Tryd.ntmps17
  go_wp2_with fail
  go_loopw [3] (fun vd wr => ∃ d : Nat, vd = .int .u64 (d : Int) ∧ 2 ≤ d ∧ d ≤ 65536 ∧ Hid (noDiv n d) ∧ wr = w) (fun vd _ => 65537 - (intOf vd).toNat)
  case atStart => exact ⟨2, rfl, by omega, by omega, noDiv_two n, rfl⟩
  case round =>
    obtain ⟨d, rfl, h2, hu, hD, rfl⟩ := hrel
    have hdd : d * d ≤ 65536 * 65536 := Nat.mul_le_mul hu hu
    have o1 : IntKind.u64.wrap ((d : Int) * (d : Int)) = ((d * d : Nat) : Int) := by rw [← Int.natCast_mul]; exact wraps_u64 _ (by omega) (by omega)
    have nz : ((d : Int) == 0) = false := by rw [beq_eq_false_iff_ne]; omega
    have nz2 : ¬ ((d : Int) = 0) := by omega
    have m1 : (n : Int).tmod (d : Int) = ((n % d : Nat) : Int) := by rw [Int.tmod_eq_emod_of_nonneg (by omega)]; simp
    by_cases h : d * d ≤ n
    · have d1 : decide (d * d ≤ n) = true := decide_eq_true h
      have hd5 : d ≤ 65535 := by
        rcases Nat.lt_or_ge 65535 d with h' | h'
        · have : 65536 * 65536 ≤ d * d := Nat.mul_le_mul h' h'
          omega
        · exact h'
      by_cases hd : n % d = 0
      · obtain rfl : V = false := HV.out.symm.trans (div_not HN.out h2 h hd)
        rw [hd] at m1
        obtain ⟨pp, hpp2⟩ : ∃ pp, d * d = pp := ⟨_, rfl⟩
        rw [hpp2] at o1 d1
        clear hd hdd hpp2 h hD
        go_wp2_with fail
        go_ret
        exact ⟨rfl, rfl⟩
      · have HS := Lib.hid (noDiv.step hD.out hd)
        have hd' : ¬ ((n % d : Nat) : Int) = 0 := by omega
        have o2 : IntKind.u64.wrap ((d : Int) + 1) = ((d + 1 : Nat) : Int) := by rw [wraps_u64 _ (by omega) (by omega)]; omega
        obtain ⟨pp, hpp2⟩ : ∃ pp, d * d = pp := ⟨_, rfl⟩
        rw [hpp2] at o1 d1
        obtain ⟨rr, hrr⟩ : ∃ rr, n % d = rr := ⟨_, rfl⟩
        rw [hrr] at m1 hd hd'
        clear hdd hpp2 h hrr
        go_wp2_with fail
        exact ⟨⟨d + 1, by go_num, by omega, by omega, HS, by trivial⟩, by simp [intOf]; omega⟩
    · have d1 : decide (d * d ≤ n) = false := decide_eq_false h
      have hw := div_want HN.out hD.out (by omega)
      have hVd : decide ((2 : Int) ≤ (n : Int)) = V := by
        rw [← HV.out, hw]; exact decide_eq_decide.2 (by omega)
      obtain ⟨pp, hpp2⟩ : ∃ pp, d * d = pp := ⟨_, rfl⟩
      rw [hpp2] at o1 d1 h
      clear hdd hpp2 hD hw
      go_wp2_with fail
      go_ret
      exact ⟨rfl, rfl⟩
set_option maxHeartbeats 8000000 in
theorem proves_walk (a : Option Addr) (r c : Nat) (R : List StR) (w : World) (hT : Tab w) (hR : CS w a R) (hr : R.length = r) (hbig : R.length ≤ maxLen) (hok : ∀ x ∈ R, x.ok) :
    Calls Tryd.prog 5 #[.agg #[.slice a r c]] w fun e w' => e = .returned (.bool true) ∧ Below w.heap.size w w' := by
  have hS := CtB.new w (.slice a r c)
  have hb := (Below.refl _ w).alloc (Nat.le_refl _) (.cells #[.slice a r c] 33)
  have HR := Lib.hid (hR.below hb (Nat.le_refl _))
  have HT := Lib.hid (hT.below hb)
  have HFw := Lib.hid (fun w h => ceFew_any a r c R w h hr hbig hok)
  have HCk := Lib.hid (fun w hT h => ceCheck_any a r c R w hT h hr hbig hok)
  have HN := Lib.hid hr
  have hbig2 : r ≤ maxLen := by rw [← hr]; exact hbig
  unfold maxLen at hbig2
  have HAw := Lib.hid (fun w h => awakeC w h)
  clear hR hT hok hr hbig
  go_enter Tryd.func5, Tryd.ntmps5
  go_wp2_with fail
  generalize World.alloc _ _ = w0 at hS hb HR HT ⊢
  have c0 := hS.c0
  go_wp2_with fail
  refine (HFw.out _ HR.out).mono ?_; rintro e w1 ⟨⟨V, rfl, _⟩, b1⟩
  have b2 := hb.trans (b1.mono hb.size)
  cases V
  · go_wp2_with fail
    refine (HAw.out _ (HT.out.below b1)).mono ?_; rintro e w3 ⟨rfl, b3⟩
    have b4 := b2.trans (b3.mono b2.size)
    go_wp2_with fail
    go_ret
    exact ⟨rfl, b4⟩
  · have c1 := cellB_keep c0 b1
    go_wp2_with fail
    refine (HCk.out _ (HT.out.below b1) (HR.out.below b1 (Nat.le_refl _))).mono ?_; rintro e w3 ⟨rfl, b3⟩
    have b4 := b2.trans (b3.mono b2.size)
    have b5 := b1.trans (b3.mono b1.size)
    by_cases hE : ckC (R.map stp) = 0
    · obtain ⟨hw1, hw2⟩ := ckC_zero hE
      have HPR := Lib.hid (ckC_prime hw1 hw2)
      have HWF := Lib.hid (wfParts hw1)
      rw [hE]
      have hS3 := hS.below b5 hS.lt
      have HR3 := Lib.hid (HR.out.below b5 (Nat.le_refl _))
      have HT3 := Lib.hid (HT.out.below b5)
      clear hw1 hw2 hE c0 c1 HCk HFw HR HT
      go_wp2_with fail
      go_loopw [3] (fun i wr => ∃ k : Nat, k ≤ r ∧ i = .int .i64 k ∧ Below w3.heap.size w3 wr) (fun i _ => r - (intOf i).toNat)
      case atStart => exact ⟨0, by omega, rfl, Below.refl _ _⟩
      case round =>
        obtain ⟨k, hk, rfl, hB⟩ := hrel
        have c0 := (hS3.below hB hS3.lt).c0
        have hBw := b4.trans (hB.mono b4.size)
        by_cases hlt : k < r
        · have hkR : k < R.length := by rw [HN.out]; exact hlt
          obtain ⟨b, off, rfl, x0, _, _, _⟩ := (HR3.out.below hB (Nat.le_refl _)) k hkR
          obtain ⟨p1, p2⟩ := HWF.out _ (List.getElem_mem hkR)
          have hp := HPR.out k (by simpa using hkR)
          simp only [List.getElem_map] at hp
          replace hp : IsP (nv R[k].1) := hp
          generalize R[k] = x at x0 p1 p2 hp
          obtain ⟨P, A, fa, fc, F⟩ := x
          simp only at x0 p1 p2 hp
          obtain ⟨m, hm⟩ : ∃ m, nv P = m := ⟨_, rfl⟩
          rw [hm] at p1 p2 hp
          have hib := hp.isB
          clear hm
          by_cases h8 : P.size ≤ 8
          · have HSm := Lib.hid (fun w => refSmall_yes P m w p1 h8)
            by_cases ht : m < 67108864
            · have HIp := (fun w => ceIsPrime_any m (by omega) w)
              rw [hib] at HIp
              have HIp := Lib.hid HIp
              have d1 : decide ((m : Int) < 67108864) = true := decide_eq_true (by omega)
              clear p1 hp hib
              go_wp2_with fail
              refine (HSm.out _).mono ?_; rintro e w5 ⟨rfl, rfl⟩
              go_wp2_with fail
              refine (HIp.out _).mono ?_; rintro e w6 ⟨rfl, rfl⟩
              go_wp2_with fail
              exact ⟨⟨k + 1, by omega, by go_num, hB⟩, by simp [intOf]; omega⟩
            · have d1 : decide ((m : Int) < 67108864) = false := decide_eq_false (by omega)
              have d2 : ¬ (m : Int) < 67108864 := by omega
              clear p1 hp hib
              go_wp2_with fail
              refine (HSm.out _).mono ?_; rintro e w5 ⟨rfl, rfl⟩
              go_wp2_with fail
              exact ⟨⟨k + 1, by omega, by go_num, hB⟩, by simp [intOf]; omega⟩
          · have HSm := Lib.hid (fun w => refSmall_no P m w p1 (by omega))
            clear p1 hp hib
            go_wp2_with fail
            refine (HSm.out _).mono ?_; rintro e w5 ⟨rfl, rfl⟩
            go_wp2_with fail
            exact ⟨⟨k + 1, by omega, by go_num, hB⟩, by simp [intOf]; omega⟩
        · obtain rfl : k = r := by omega
          go_wp2_with fail
          refine (HAw.out _ (HT3.out.below hB)).mono ?_; rintro e w5 ⟨rfl, b5⟩
          have b6 := hBw.trans (b5.mono hBw.size)
          go_wp2_with fail
          go_ret
          exact ⟨rfl, b6⟩
    · obtain ⟨E, hEE⟩ : ∃ E, ckC (R.map stp) = E := ⟨_, rfl⟩
      rw [hEE] at hE ⊢
      have hE2 : (E == 0) = false := by rw [beq_eq_false_iff_ne]; exact hE
      have HT3 := Lib.hid (HT.out.below b5)
      clear hEE
      go_wp2_with fail
      refine (HAw.out _ HT3.out).mono ?_; rintro e w5 ⟨rfl, b5⟩
      have b6 := b4.trans (b5.mono b4.size)
      go_wp2_with fail
      go_ret
      exact ⟨rfl, b6⟩
end Go.Proofs.YtjminjliomffaaaDoor
