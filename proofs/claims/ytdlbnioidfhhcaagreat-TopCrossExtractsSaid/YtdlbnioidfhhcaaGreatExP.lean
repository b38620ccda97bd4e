import Derived.Test.YtdlbnioidfhhcaaGreatIcE
/- Plain: the statement of Equal, and what its images say. -/
namespace Go.Proofs.YtdlbnioidfhhcaaGreat
open Go.RowKit Num
set_option maxRecDepth 20000
set_option linter.unusedVariables false
/-- a key of the sizes that the law allows -/
def PK.sm (k : PK) : Prop := k.M.size ≤ 8 ∧ k.O.size ≤ 8 ∧ k.G.size ≤ 9 ∧ k.H.size ≤ 9
theorem ml9 {s : ByteArray} {n : Nat} (h : s.size ≤ n) (hn : n ≤ 9) : s.size ≤ maxLen := by unfold maxLen; omega
theorem e1s : (enc 1).size = 1 := by decide +kernel
theorem wf012 : (Lit.int .i64 0).wf = true ∧ (Lit.int .i64 1).wf = true ∧ (Lit.int .i64 2).wf = true := by decide
section
variable {k l : PK} {A B V R : ByteArray} {ta : Option Addr} {ca : Nat} {tb : Option Addr} {cb : Nat} {L : List (Bool × ByteArray)}
theorem eqS_ok (hk : k.sm) (hl : l.sm) (hA : A.size ≤ 9) (hB : B.size ≤ 9) (hV : V.size ≤ 8) (hR : R.size ≤ 8) : (eqS k l A B V R ta ca tb cb).ok := by
  obtain ⟨k1, k2, k3, k4⟩ := hk
  obtain ⟨l1, l2, l3, l4⟩ := hl
  have e1 := e1s
  have e2 : (enc 1).size ≤ maxLen := by rw [e1]; unfold maxLen; omega
  refine ⟨?_, ?_, ?_, ?_, ?_, ?_⟩
  · show 2 ≤ maxLen; unfold maxLen; omega
  · show 3 ≤ maxLen; unfold maxLen; omega
  · show 2 ≤ maxLen; unfold maxLen; omega
  · intro x hx
    simp only [eqS, List.mem_cons, List.not_mem_nil, or_false] at hx
    rcases hx with rfl | rfl
    · exact ⟨ml9 k1 (by omega), ml9 k2 (by omega)⟩
    · exact ⟨ml9 l1 (by omega), ml9 l2 (by omega)⟩
  · intro x hx
    simp only [eqS, List.mem_cons, List.not_mem_nil, or_false] at hx
    rcases hx with rfl | rfl | rfl
    · exact ml9 hV (by omega)
    · exact Nat.zero_le _
    · exact ml9 hR (by omega)
  · intro x hx
    simp only [eqS, List.mem_cons, List.not_mem_nil, or_false] at hx
    rcases hx with rfl | rfl
    · refine ⟨wf012.1, ml9 hA (by omega), by show 2 ≤ maxLen; unfold maxLen; omega, fun t ht => ?_⟩
      simp only [List.mem_cons, List.not_mem_nil, or_false] at ht
      rcases ht with rfl | rfl
      · exact ⟨ml9 k3 (by omega), wf012.1, e2⟩
      · exact ⟨ml9 k4 (by omega), wf012.2.1, e2⟩
    · refine ⟨wf012.2.1, ml9 hB (by omega), by show 2 ≤ maxLen; unfold maxLen; omega, fun t ht => ?_⟩
      simp only [List.mem_cons, List.not_mem_nil, or_false] at ht
      rcases ht with rfl | rfl
      · exact ⟨ml9 l3 (by omega), wf012.1, e2⟩
      · exact ⟨ml9 l4 (by omega), wf012.2.2, e2⟩
theorem eqS_szq : ∀ q ∈ (eqS k l A B V R ta ca tb cb).Q, SzQ (eqp q) := by
  have e2 : (enc 1).size ≤ 8 := by rw [e1s]; omega
  intro q hq t ht
  simp only [eqS, List.mem_cons, List.not_mem_nil, or_false] at hq
  rcases hq with rfl | rfl <;>
  · simp only [eqp, List.mem_cons, List.not_mem_nil, or_false] at ht
    rcases ht with rfl | rfl <;> exact e2
theorem eqS_sms (hs : SzL L) : SmS (eqS k l A B V R ta ca tb cb) L := ⟨eqS_szq, hs⟩
theorem eqS_v (hV : V.size ≤ 8) (hR : R.size ≤ 8) : ∀ v ∈ (eqS k l A B V R ta ca tb cb).V, v.size ≤ 8 := by
  intro x hx
  simp only [eqS, List.mem_cons, List.not_mem_nil, or_false] at hx
  rcases hx with rfl | rfl | rfl
  · exact hV
  · exact Nat.zero_le _
  · exact hR
theorem eqS_ord (hk : k.sm) (hl : l.sm) : (ordL (eqS k l A B V R ta ca tb cb).G).size ≤ 8 := by
  show (ordL [(k.M, k.O), (l.M, l.O)]).size ≤ 8
  simp only [ordL]
  split
  · split
    · exact Nat.zero_le _
    · exact hl.2.1
  · exact hk.2.1
theorem zm_one {x : Bool × ByteArray} (h : ivB x = true) : zm (false, enc 1) x = x := by
  obtain ⟨e1, e2, _, _⟩ := zi_iv h
  have h1 : zi (false, enc 1) = 1 := by decide +kernel
  unfold zm
  rw [h1, Int.one_mul, ← e1, ← e2]
theorem eqS_im (h : rdE (eqS k l A B V R ta ca tb cb).pl L = 0) (hs : SzL L) : ∃ x0 x1 x2, L = [x0, x1, x2] ∧ ivB x0 = true ∧ ivB x1 = true ∧ ivB x2 = true ∧ gpE k.M k.O [k.G, k.H] [x0, x1] = 0 ∧ gpE l.M l.O [l.G, l.H] [x0, x2] = 0 ∧
    imS (eqS k l A B V R ta ca tb cb).pl L = [gpS k.M k.O [k.G, k.H] [x0, x1], gpS l.M l.O [l.G, l.H] [x0, x2]] := by
  obtain ⟨h1, h2, h3, h4⟩ := rd_zero h
  have h5 : L.length = 3 := h4
  match L, h5 with
  | [x0, x1, x2], _ =>
    simp only [List.all_cons, List.all_nil, Bool.and_true, Bool.and_eq_true] at h3
    obtain ⟨i0, i1, i2⟩ := h3
    have h3 : [x0, x1, x2].all ivB = true := by simp [i0, i1, i2]
    have m0 : ((0 : Int), A, [(k.G, (0 : Int), false, enc 1), (k.H, (1 : Int), false, enc 1)]) ∈ (eqS k l A B V R ta ca tb cb).pl.Q := List.mem_cons_self ..
    have m1 : ((1 : Int), B, [(l.G, (0 : Int), false, enc 1), (l.H, (2 : Int), false, enc 1)]) ∈ (eqS k l A B V R ta ca tb cb).pl.Q := List.mem_cons_of_mem _ (List.mem_cons_self ..)
    have e2 : (enc 1).size ≤ 8 := by rw [e1s]; omega
    have g0 := (im_ok h1 h3 h4 m0 (fun t ht => by
      simp only [List.mem_cons, List.not_mem_nil, or_false] at ht
      rcases ht with rfl | rfl <;> exact e2) hs).1
    have g1 := (im_ok h1 h3 h4 m1 (fun t ht => by
      simp only [List.mem_cons, List.not_mem_nil, or_false] at ht
      rcases ht with rfl | rfl <;> exact e2) hs).1
    replace g0 : gpE k.M k.O [k.G, k.H] [zm (false, enc 1) x0, zm (false, enc 1) x1] = 0 := g0
    replace g1 : gpE l.M l.O [l.G, l.H] [zm (false, enc 1) x0, zm (false, enc 1) x2] = 0 := g1
    rw [zm_one i0, zm_one i1] at g0
    rw [zm_one i0, zm_one i2] at g1
    refine ⟨x0, x1, x2, rfl, i0, i1, i2, g0, g1, ?_⟩
    show [gpS k.M k.O [k.G, k.H] [zm (false, enc 1) x0, zm (false, enc 1) x1], gpS l.M l.O [l.G, l.H] [zm (false, enc 1) x0, zm (false, enc 1) x2]] = _
    rw [zm_one i0, zm_one i1, zm_one i2]
theorem PK.fm_of (h : k.e = 0) : k.fm = true := by
  cases hf : k.fm
  · rw [PK.e_form hf] at h; exact absurd h (by decide)
  · rfl
theorem eql_zero (h : eqlE k l A B V R = 0) : k.fm = true ∧ k.e = 0 ∧ l.fm = true ∧ l.e = 0 := by
  obtain ⟨_, h2, h3, _⟩ := fst6_zero h
  have h4 : l.e = 0 := by
    unfold tyE at h3
    split at h3
    · exact absurd h3 (by decide)
    · unfold PK.u at h3
      split at h3
      · assumption
      · exact h3
  exact ⟨PK.fm_of h2, h2, PK.fm_of h4, h4⟩
end
end Go.Proofs.YtdlbnioidfhhcaaGreat
