import Derived.Test.YtdhhbjmkdmbffaaGreatDoorLjF
import Derived.Test.YtdhhbjmkdmbffaaGreatDoorLjI
/- The plain law of LinearShares. -/
namespace Go.Proofs.YtdhhbjmkdmbffaaGreatDoor
open Go.RowKit Num
set_option maxRecDepth 20000
set_option linter.unusedVariables false
theorem em_nv {s : ByteArray} (h : emB s = true) : nv s = 0 := by
  rcases em_cases s with ⟨_, rfl⟩ | ⟨h1, _⟩
  · rfl
  · rw [h] at h1; cases h1
theorem ordL_mem : ∀ G : List (ByteArray × ByteArray), emB (ordL G) = false → ∃ g ∈ G, g.2 = ordL G
  | [], h => by exact absurd h (by decide +kernel)
  | g :: r, h => by
    unfold ordL at h ⊢
    split
    · rename_i h1
      rw [if_pos h1] at h
      obtain ⟨x, hx, e⟩ := ordL_mem r h
      exact ⟨x, List.mem_cons_of_mem _ hx, e⟩
    · exact ⟨g, List.mem_cons_self, rfl⟩
theorem ord_same {A S : StP} (hA : typB A = true) (hS : typB S = true) (hG : ∀ g ∈ A.G, g ∈ S.G) (hAe : A.V.any emB = true) (hSe : S.V.any emB = true) : nv (ordS A) = nv (ordS S) := by
  unfold typB at hA hS
  rw [hAe] at hA
  rw [hSe] at hS
  simp only [Bool.not_true, Bool.false_or, Bool.and_eq_true, Bool.not_eq_true'] at hA hS
  obtain ⟨g, hg, e⟩ := ordL_mem A.G hA.1
  have h1 := List.all_eq_true.1 hS.2.1 g (hG g hg)
  unfold tyG at h1
  have e2 : g.2 = ordS A := e
  rw [e2] at h1
  simp only [hA.1, Bool.false_or] at h1
  have h2 : (ordS A).toList = (ordS S).toList := by simpa using h1
  have h3 : (ordS A) = (ordS S) := by
    rcases hx : ordS A with ⟨x⟩
    rcases hy : ordS S with ⟨y⟩
    rw [hx, hy, Go.Lib.toList_data, Go.Lib.toList_data] at h2
    congr 1
    exact Array.toList_inj.1 h2
  rw [h3]
theorem inV_ord {o o' b : ByteArray} {x : Bool × ByteArray} (h : emB b = true → nv o = nv o') : inV o b x = inV o' b x := by
  unfold inV
  split
  · rename_i hb; rw [h hb]
  · rfl
theorem inV_mn {o a b : ByteArray} {x : Bool × ByteArray} (h : emB a = emB b) : inV o (mnB a b) x = true ↔ inV o a x = true ∧ inV o b x = true := by
  by_cases ha : emB a = true
  · have hb : emB b = true := by rw [← h]; exact ha
    have hm : mnB a b = a := by unfold mnB; rw [em_nv ha, em_nv hb]; simp
    rw [hm]
    unfold inV
    rw [if_pos ha, if_pos hb]
    simp
  · have hb : ¬ emB b = true := by rw [← h]; exact ha
    have hm : ¬ emB (mnB a b) = true := by rcases mnB_or a b with e | e <;> rw [e] <;> assumption
    unfold inV
    rw [if_neg ha, if_neg hb, if_neg hm, decide_eq_true_eq, decide_eq_true_eq, decide_eq_true_eq]
    unfold mnB
    split <;> omega
/-- the second witness, with the shared integer -/
def shW (V W : List (Bool × ByteArray)) (k l : Nat) : List (Bool × ByteArray) := W.set l (V.getD k (false, ⟨#[]⟩))
/-- the joined witness -/
def shJ (V w : List (Bool × ByteArray)) (l : Nat) : List (Bool × ByteArray) := V ++ w.eraseIdx l
/-- the place of the i-th variable of the second statement -/
def shN (n k l i : Nat) : Nat := if i = l then k else n + (i - if l < i then 1 else 0)
theorem shN_surj {n k l m : Nat} (hl : l < m) {j : Nat} (h0 : n ≤ j) (hj : j < n + (m - 1)) : ∃ i, i < m ∧ i ≠ l ∧ shN n k l i = j := by
  by_cases h : j - n < l
  · refine ⟨j - n, by omega, by omega, ?_⟩
    unfold shN
    rw [if_neg (by omega), if_neg (by omega)]
    omega
  · refine ⟨j - n + 1, by omega, by omega, ?_⟩
    unfold shN
    rw [if_neg (by omega), if_pos (by omega)]
    omega
/-- a list joined with another but for one place -/
theorem join_at {α : Type} (V w : List α) (d : α) {k l i : Nat} (hk : k < V.length) (hl : l < w.length) (hi : i < w.length) (h : i = l → V.getD k d = w.getD l d) : (V ++ w.eraseIdx l).getD (shN V.length k l i) d = w.getD i d := by
  unfold shN
  simp only [List.getD_eq_getElem?_getD] at h ⊢
  by_cases e : i = l
  · rw [if_pos e, List.getElem?_append_left hk, h e, e]
  · rw [if_neg e, List.getElem?_append_right (by omega), Nat.add_sub_cancel_left, List.getElem?_eraseIdx]
    split
    · rename_i h1
      rw [if_neg (by omega)]
      congr 2
      omega
    · rename_i h1
      rw [Nat.sub_zero, if_pos (by omega)]
theorem join_left {α : Type} (V w : List α) (d : α) {i : Nat} (hi : i < V.length) : (V ++ w).getD i d = V.getD i d := by
  simp only [List.getD_eq_getElem?_getD]
  rw [List.getElem?_append_left hi]
theorem set_at {α : Type} (L : List α) (d x : α) {k i : Nat} (hk : k < L.length) : (L.set k x).getD i d = if i = k then x else L.getD i d := by
  simp only [List.getD_eq_getElem?_getD, List.getElem?_set]
  by_cases e : i = k
  · subst e; simp [hk]
  · have e2 : ¬ k = i := fun h => e h.symm
    simp [e, e2]
/-- the filling of the places where one place is shared -/
theorem flJ_one (l : Nat) (k : Int) (hk : 0 ≤ k) : ∀ (R : List ByteArray) (j : Nat) (J : List Int) (V : List ByteArray), j + R.length = J.length → (∀ i, j ≤ i → i < J.length → J.getD i 0 = if i = l then k else -1) →
    (flJ R j J V).2 = V ++ (if j ≤ l then R.eraseIdx (l - j) else R) ∧ ∀ i, i < J.length → (flJ R j J V).1.getD i 0 = if i < j then J.getD i 0 else if i = l then k else ((V.length + (i - j - if j ≤ l ∧ l < i then 1 else 0) : Nat) : Int)
  | [], j, J, V, hl, hJ => by
    simp only [List.length_nil, Nat.add_zero] at hl
    refine ⟨by simp [flJ], fun i hi => ?_⟩
    rw [if_pos (by omega)]
    rfl
  | v :: r, j, J, V, hl, hJ => by
    rw [List.length_cons] at hl
    have hj : j < J.length := by omega
    have h0 := hJ j (Nat.le_refl _) hj
    unfold flJ
    by_cases e : j = l
    · rw [if_pos e] at h0
      rw [if_neg (by omega)]
      obtain ⟨g1, g2⟩ := flJ_one l k hk r (j + 1) J V (by omega) (fun i h1 h2 => hJ i (by omega) h2)
      refine ⟨?_, fun i hi => ?_⟩
      · rw [g1, if_neg (by omega), if_pos (by omega), e, Nat.sub_self]
        rfl
      · rw [g2 i hi]
        by_cases h1 : i < j
        · rw [if_pos (by omega), if_pos h1]
        · rw [if_neg h1]
          by_cases h2 : i = j
          · subst h2
            rw [if_pos (by omega), if_pos e, h0]
          · rw [if_neg (by omega), if_neg (by omega), if_neg (by omega), if_neg (by omega), if_pos (by omega)]
            congr 2
    · rw [if_neg e] at h0
      rw [if_pos (by omega)]
      obtain ⟨g1, g2⟩ := flJ_one l k hk r (j + 1) (J.set j (V.length : Int)) (V ++ [v]) (by rw [List.length_set]; omega) (fun i h1 h2 => by
        rw [List.length_set] at h2
        rw [getD_set_int _ _ _ _ hj, if_neg (by omega)]
        exact hJ i (by omega) h2)
      rw [List.length_set] at g2
      refine ⟨?_, fun i hi => ?_⟩
      · rw [g1, List.append_assoc]
        congr 1
        by_cases h1 : j ≤ l
        · rw [if_pos h1, if_pos (by omega), show l - j = (l - (j + 1)) + 1 by omega]
          rfl
        · rw [if_neg h1, if_neg (by omega)]
          rfl
      · rw [g2 i hi, getD_set_int _ _ _ _ hj, List.length_append, List.length_singleton]
        by_cases h1 : i < j
        · rw [if_pos (by omega), if_neg (by omega), if_pos h1]
        · rw [if_neg h1]
          by_cases h2 : i = j
          · subst h2
            rw [if_pos (by omega), if_pos rfl, if_neg e]
            simp
          · rw [if_neg (by omega)]
            by_cases h3 : i = l
            · rw [if_pos h3, if_pos h3]
            · rw [if_neg h3, if_neg h3]
              congr 1
              by_cases h4 : j ≤ l ∧ l < i
              · rw [if_pos h4, if_pos ⟨by omega, h4.2⟩]; omega
              · rw [if_neg h4, if_neg (fun h => h4 ⟨by omega, h.2⟩)]; omega
theorem flJ_len2 : ∀ (R : List ByteArray) (j : Nat) (J : List Int) (V : List ByteArray), (flJ R j J V).1.length = J.length
  | [], j, J, V => rfl
  | v :: r, j, J, V => by
    unfold flJ
    split
    · rw [flJ_len2 r, List.length_set]
    · rw [flJ_len2 r]
theorem in_iff {S : StP} {L : List (Bool × ByteArray)} (hl : L.length = S.V.length) : inS S L = true ↔ ∀ i, i < S.V.length → inV (ordS S) (S.V.getD i ⟨#[]⟩) (L.getD i (false, ⟨#[]⟩)) = true := by
  unfold inS
  rw [List.all_eq_true]
  constructor
  · intro h i hi
    have h1 := h (S.V[i], L[i]'(by omega)) (by
      rw [List.mem_iff_getElem]
      exact ⟨i, by rw [List.length_zip]; omega, by rw [List.getElem_zip]⟩)
    simpa [List.getD_eq_getElem?_getD, hi, hl] using h1
  · intro h x hx
    obtain ⟨i, hi, rfl⟩ := List.mem_iff_getElem.1 hx
    rw [List.length_zip] at hi
    rw [List.getElem_zip]
    have h1 := h i (by omega)
    simpa [List.getD_eq_getElem?_getD, show i < S.V.length by omega, show i < L.length by omega] using h1
theorem imQ_congr {S S' : StP} {L L' : List (Bool × ByteArray)} {q q' : EqP} (hg : grpS S q = grpS S' q') (hb : q.2.2.map (·.1) = q'.2.2.map (·.1)) (he : expsS L q = expsS L' q') : imQ S L q = imQ S' L' q' := by
  unfold imQ
  rw [hg, hb, he]
theorem exps_congr {L L' : List (Bool × ByteArray)} {q q' : EqP} (f : TmR → TmR) (hq : q'.2.2 = q.2.2.map f) (h : ∀ t ∈ q.2.2, (f t).1 = t.1 ∧ (f t).2.2 = t.2.2 ∧ L'.getD (f t).2.1.toNat (false, ⟨#[]⟩) = L.getD t.2.1.toNat (false, ⟨#[]⟩)) : q.2.2.map (·.1) = q'.2.2.map (·.1) ∧ expsS L q = expsS L' q' := by
  unfold expsS
  rw [hq, List.map_map, List.map_map]
  refine ⟨List.map_congr_left fun t ht => (h t ht).1.symm, List.map_congr_left fun t ht => ?_⟩
  obtain ⟨_, h2, h3⟩ := h t ht
  show zm t.2.2 _ = zm (f t).2.2 _
  rw [h2, h3]
theorem joinR_ok {A B : StP} {P : List PRt} (h : (joinR A B P).1 = 0) : (formB A = true ∧ formB B = true) ∧ rstE A = 0 ∧ rstE B = 0 ∧ P.all (prOk A.V.length B.V.length) = true ∧ ∃ J V, twJ P (List.replicate B.V.length (-1)) = some J ∧ bdV A.V B.V P A.V = some V ∧ lckE (jnS A B (flJ B.V 0 J V)) = 0 ∧ joinR A B P = (0, jnS A B (flJ B.V 0 J V), (flJ B.V 0 J V).1) := by
  by_cases h1 : formB A = true ∧ formB B = true
  rotate_left
  · rw [joinR_form h1] at h; exact absurd h (by decide)
  by_cases h2 : rstE A = 0
  rotate_left
  · rw [joinR_a h1 h2] at h; exact absurd h h2
  by_cases h3 : rstE B = 0
  rotate_left
  · rw [joinR_b h1 h2 h3] at h; exact absurd h h3
  cases h4 : P.all (prOk A.V.length B.V.length)
  · rw [joinR_rng h1 h2 h3 h4] at h; exact absurd h (by decide)
  rw [joinR_pl h1 h2 h3 h4] at h
  cases h5 : twJ P (List.replicate B.V.length (-1)) with
  | none => rw [plJ_none h5] at h; exact absurd h (by decide)
  | some J =>
    rw [plJ_some h5] at h
    cases h6 : bdV A.V B.V P A.V with
    | none => rw [vrJ_none h6] at h; exact absurd h (by decide)
    | some V =>
      rw [vrJ_some h6] at h
      by_cases h7 : lckE (jnS A B (flJ B.V 0 J V)) = 0
      · exact ⟨h1, h2, h3, rfl, J, V, rfl, rfl, h7, by rw [joinR_pl h1 h2 h3 h4, plJ_some h5, vrJ_some h6, endJ_ok h7]⟩
      · rw [endJ_no h7] at h; exact absurd h h7
theorem joinR_no {A B : StP} {P : List PRt} (h : (joinR A B P).1 ≠ 0) : (joinR A B P).2.2 = [] := by
  by_cases h1 : formB A = true ∧ formB B = true
  rotate_left
  · rw [joinR_form h1]; rfl
  by_cases h2 : rstE A = 0
  rotate_left
  · rw [joinR_a h1 h2]; rfl
  by_cases h3 : rstE B = 0
  rotate_left
  · rw [joinR_b h1 h2 h3]; rfl
  cases h4 : P.all (prOk A.V.length B.V.length)
  · rw [joinR_rng h1 h2 h3 h4]; rfl
  rw [joinR_pl h1 h2 h3 h4] at h ⊢
  cases h5 : twJ P (List.replicate B.V.length (-1)) with
  | none => rw [plJ_none h5]; rfl
  | some J =>
    rw [plJ_some h5] at h ⊢
    cases h6 : bdV A.V B.V P A.V with
    | none => rw [vrJ_none h6]; rfl
    | some V =>
      rw [vrJ_some h6] at h ⊢
      by_cases h7 : lckE (jnS A B (flJ B.V 0 J V)) = 0
      · rw [endJ_ok h7] at h; exact absurd rfl h
      · rw [endJ_no h7]; rfl
section
variable {A B : StP} {V W : List (Bool × ByteArray)} {k l : Nat}
theorem rd_of {S : StP} {L : List (Bool × ByteArray)} (hf : formB S = true) (hr : rstE S = 0) (hl : L.length = S.V.length) : rdE S L = if L.all ivB = true then 0 else 3 := by
  unfold rdE
  by_cases h : L.all ivB = true
  · rw [if_pos ⟨hf, h⟩, if_pos hr, if_pos hl, if_pos h]
  · rw [if_neg (fun x => h x.2), if_neg h]
theorem all_iff (L : List (Bool × ByteArray)) : L.all ivB = true ↔ ∀ i, i < L.length → ivB (L.getD i (false, ⟨#[]⟩)) = true := by
  rw [List.all_eq_true]
  constructor
  · intro h i hi
    have := h L[i] (List.getElem_mem hi)
    simpa [List.getD_eq_getElem?_getD, hi] using this
  · intro h x hx
    obtain ⟨i, hi, rfl⟩ := List.mem_iff_getElem.1 hx
    have := h i hi
    simpa [List.getD_eq_getElem?_getD, hi] using this
theorem shares_law (hR : (joinR A B [((k : Int), (l : Int))]).1 = 0) (hV : V.length = A.V.length) (hW : W.length = B.V.length) (hk : k < V.length) (hl : l < W.length) :
    (joinR A B [((k : Int), (l : Int))]).2.2.length = W.length ∧ (∀ i, i < W.length → (joinR A B [((k : Int), (l : Int))]).2.2.getD i 0 = (shN V.length k l i : Int)) ∧
    (rdE A V = 0 → rdE B (shW V W k l) = 0 → rdE (joinR A B [((k : Int), (l : Int))]).2.1 (shJ V (shW V W k l) l) = 0 ∧ hldS (joinR A B [((k : Int), (l : Int))]).2.1 (shJ V (shW V W k l) l) = (hldS A V && hldS B (shW V W k l))) ∧
    (rdE A V ≠ 0 ∨ rdE B (shW V W k l) ≠ 0 → hldS (joinR A B [((k : Int), (l : Int))]).2.1 (shJ V (shW V W k l) l) = false) := by
  obtain ⟨⟨fA, fB⟩, rA, rB, hP, J, VV, hJ, hVV, hck, hjn⟩ := joinR_ok hR
  rw [hjn]
  -- the places
  have hJ0 : J = (List.replicate B.V.length (-1)).set l (k : Int) := by
    unfold twJ at hJ
    rw [if_neg (by simp [List.getD_eq_getElem?_getD, show l < B.V.length by omega])] at hJ
    injection hJ with hJ
    rw [← hJ]; simp
  have hb : emB (A.V.getD k ⟨#[]⟩) = emB (B.V.getD l ⟨#[]⟩) ∧ VV = A.V.set k (mnB (A.V.getD k ⟨#[]⟩) (B.V.getD l ⟨#[]⟩)) := by
    unfold bdV at hVV
    split at hVV
    · rename_i h
      injection hVV with hVV
      exact ⟨by simpa [atB] using h, by rw [← hVV]; simp [atB]⟩
    · cases hVV
  have hJl : J.length = B.V.length := by rw [hJ0, List.length_set, List.length_replicate]
  obtain ⟨g1, g2⟩ := flJ_one l (k : Int) (by omega) B.V 0 J VV (by omega) (fun i _ hi => by
    rw [hJ0, getD_set_int _ _ _ _ (by rw [List.length_replicate]; omega)]
    by_cases e : l = i
    · rw [if_pos e, if_pos e.symm]
    · rw [if_neg e, if_neg (fun h => e h.symm)]
      simp [List.getD_eq_getElem?_getD, show i < B.V.length by omega])
  have hfl := flJ_len2 B.V 0 J VV
  have hVl : VV.length = A.V.length := by rw [hb.2, List.length_set]
  have hpl : ∀ i, i < W.length → (flJ B.V 0 J VV).1.getD i 0 = (shN V.length k l i : Int) := fun i hi => by
    rw [g2 i (by omega), if_neg (by omega)]
    unfold shN
    by_cases e : i = l
    · rw [if_pos e, if_pos e]
    · rw [if_neg e, if_neg e, hVl, hV]
      congr 1
      by_cases h : l < i
      · rw [if_pos ⟨by omega, h⟩, if_pos h]; omega
      · rw [if_neg (fun x => h x.2), if_neg h]; omega
  have hWl : (shW V W k l).length = W.length := by unfold shW; rw [List.length_set]
  have hws : (shW V W k l).getD l (false, ⟨#[]⟩) = V.getD k (false, ⟨#[]⟩) := by unfold shW; rw [set_at _ _ _ hl, if_pos rfl]
  generalize hw : shW V W k l = w at hWl hws ⊢
  -- the joined list
  have hat : ∀ i, i < w.length → (shJ V w l).getD (shN V.length k l i) (false, ⟨#[]⟩) = w.getD i (false, ⟨#[]⟩) := fun i hi => join_at V w _ hk (by omega) hi (fun e => hws.symm)
  have hleft : ∀ i, i < V.length → (shJ V w l).getD i (false, ⟨#[]⟩) = V.getD i (false, ⟨#[]⟩) := fun i hi => join_left V _ _ hi
  have hjl : (shJ V w l).length = V.length + (W.length - 1) := by
    unfold shJ
    rw [List.length_append, List.length_eraseIdx, if_pos (by omega), hWl]
  have g1' : (flJ B.V 0 J VV).2 = VV ++ B.V.eraseIdx l := by rw [g1, if_pos (by omega), Nat.sub_zero]
  have hSVl : (flJ B.V 0 J VV).2.length = (shJ V w l).length := by
    rw [g1', List.length_append, List.length_eraseIdx, if_pos (by omega), hjl]; omega
  have hbat : ∀ i, i < W.length → (flJ B.V 0 J VV).2.getD (shN V.length k l i) ⟨#[]⟩ = if i = l then mnB (A.V.getD k ⟨#[]⟩) (B.V.getD l ⟨#[]⟩) else B.V.getD i ⟨#[]⟩ := fun i hi => by
    rw [g1']
    by_cases e : i = l
    · rw [if_pos e]
      unfold shN
      rw [if_pos e, join_left _ _ _ (by omega), hb.2, set_at _ _ _ (by omega), if_pos rfl]
    · rw [if_neg e]
      have h2 := join_at VV B.V ⟨#[]⟩ (k := k) (l := l) (i := i) (by omega) (by omega) (by omega) (fun h => absurd h e)
      rw [hVl, ← hV] at h2
      exact h2
  have hbl : ∀ i, i < A.V.length → (flJ B.V 0 J VV).2.getD i ⟨#[]⟩ = if i = k then mnB (A.V.getD k ⟨#[]⟩) (B.V.getD l ⟨#[]⟩) else A.V.getD i ⟨#[]⟩ := fun i hi => by
    rw [g1', join_left _ _ _ (by omega), hb.2, set_at _ _ _ (by omega)]
  -- the joined statement
  obtain ⟨S, hS⟩ : ∃ S, jnS A B (flJ B.V 0 J VV) = S := ⟨_, rfl⟩
  have hSG : S.G = A.G ++ B.G := by rw [← hS]; rfl
  have hSV : S.V = (flJ B.V 0 J VV).2 := by rw [← hS]; rfl
  have hSQ : S.Q = A.Q ++ B.Q.map (jQ A.G.length (flJ B.V 0 J VV).1) := by rw [← hS]; rfl
  rw [hS] at hck ⊢
  obtain ⟨fS, _, _, tS⟩ := ck_parts hck
  have rS : rstE S = 0 := by rw [← lck_of fS]; exact hck
  have tA := (ck_parts (by rw [lck_of fA]; exact rA)).2.2.2
  have tB := (ck_parts (by rw [lck_of fB]; exact rB)).2.2.2
  refine ⟨by rw [hfl, hJl, hW], hpl, ?_, ?_⟩
  · intro r1 r2
    rw [rd_of fA rA hV] at r1
    rw [rd_of fB rB (by omega)] at r2
    have a1 : V.all ivB = true := by by_cases h : V.all ivB = true <;> simp_all
    have a2 : w.all ivB = true := by by_cases h : w.all ivB = true <;> simp_all
    have a3 : (shJ V w l).all ivB = true := by
      rw [all_iff]
      intro j hj
      by_cases h : j < V.length
      · rw [hleft j h]; exact (all_iff V).1 a1 j h
      · obtain ⟨i, h1, _, h3⟩ := shN_surj (n := V.length) (k := k) (l := l) (m := W.length) hl (j := j) (by omega) (by omega)
        rw [← h3, hat i (by omega)]
        exact (all_iff w).1 a2 i (by omega)
    have d1 : rdE A V = 0 := by rw [rd_of fA rA hV, if_pos a1]
    have d2 : rdE B w = 0 := by rw [rd_of fB rB (by omega), if_pos a2]
    have d3 : rdE S (shJ V w l) = 0 := by rw [rd_of fS rS (by rw [hSV, hSVl]), if_pos a3]
    refine ⟨d3, ?_⟩
    unfold hldS
    rw [d1, d2, d3]
    simp only [decide_true, Bool.true_and]
    rw [Bool.eq_iff_iff, Bool.and_eq_true]
    unfold holdS
    rw [Bool.and_eq_true, Bool.and_eq_true, Bool.and_eq_true, in_iff (by rw [hSV, hSVl]), in_iff hV, in_iff (by omega), hSQ, List.all_append, Bool.and_eq_true, List.all_map]
    -- bounds
    have oA : ∀ i, i < A.V.length → emB (A.V.getD i ⟨#[]⟩) = true → nv (ordS S) = nv (ordS A) := fun i hi he => by
      have e1 : A.V.any emB = true := List.any_eq_true.2 ⟨A.V[i], List.getElem_mem hi, by simpa [List.getD_eq_getElem?_getD, hi] using he⟩
      refine (ord_same tA tS (fun g hg => by rw [hSG]; exact List.mem_append_left _ hg) e1 ?_).symm
      have h1 := hbl i hi
      have h2 : i < S.V.length := by rw [hSV, hSVl, hjl]; omega
      refine List.any_eq_true.2 ⟨S.V[i], List.getElem_mem h2, ?_⟩
      have h3 : S.V[i] = S.V.getD i ⟨#[]⟩ := by simp [List.getD_eq_getElem?_getD, h2]
      rw [h3, hSV, h1]
      split
      · rename_i e
        rcases mnB_or (A.V.getD k ⟨#[]⟩) (B.V.getD l ⟨#[]⟩) with e2 | e2
        · rw [e2, ← e]; exact he
        · rw [e2, ← hb.1, ← e]; exact he
      · exact he
    have oB : ∀ i, i < B.V.length → emB (B.V.getD i ⟨#[]⟩) = true → nv (ordS S) = nv (ordS B) := fun i hi he => by
      have e1 : B.V.any emB = true := List.any_eq_true.2 ⟨B.V[i], List.getElem_mem hi, by simpa [List.getD_eq_getElem?_getD, hi] using he⟩
      refine (ord_same tB tS (fun g hg => by rw [hSG]; exact List.mem_append_right _ hg) e1 ?_).symm
      have h1 := hbat i (by omega)
      have h2 : shN V.length k l i < S.V.length := by
        rw [hSV, hSVl, hjl]
        unfold shN
        split
        · omega
        · split <;> omega
      refine List.any_eq_true.2 ⟨S.V[shN V.length k l i], List.getElem_mem h2, ?_⟩
      have h3 : S.V[shN V.length k l i] = S.V.getD (shN V.length k l i) ⟨#[]⟩ := by simp [List.getD_eq_getElem?_getD, h2]
      rw [h3, hSV, h1]
      split
      · rename_i e
        rcases mnB_or (A.V.getD k ⟨#[]⟩) (B.V.getD l ⟨#[]⟩) with e2 | e2
        · rw [e2, hb.1, ← e]; exact he
        · rw [e2, ← e]; exact he
      · exact he
    have hin : (∀ i, i < S.V.length → inV (ordS S) (S.V.getD i ⟨#[]⟩) ((shJ V w l).getD i (false, ⟨#[]⟩)) = true) ↔ (∀ i, i < A.V.length → inV (ordS A) (A.V.getD i ⟨#[]⟩) (V.getD i (false, ⟨#[]⟩)) = true) ∧ ∀ i, i < B.V.length → inV (ordS B) (B.V.getD i ⟨#[]⟩) (w.getD i (false, ⟨#[]⟩)) = true := by
      have hmn := inV_mn (o := ordS S) (x := V.getD k (false, ⟨#[]⟩)) hb.1
      constructor
      · intro h
        have hkk := h k (by rw [hSV, hSVl, hjl]; omega)
        rw [hSV, hbl k (by omega), if_pos rfl, hleft k hk, hmn] at hkk
        refine ⟨fun i hi => ?_, fun i hi => ?_⟩
        · rw [← inV_ord (fun he => oA i hi he)]
          by_cases e : i = k
          · rw [e]; exact hkk.1
          · have h1 := h i (by rw [hSV, hSVl, hjl]; omega)
            rw [hSV, hbl i hi, if_neg e, hleft i (by omega)] at h1
            exact h1
        · rw [← inV_ord (fun he => oB i hi he)]
          by_cases e : i = l
          · rw [e, hws]; exact hkk.2
          · have h2 : shN V.length k l i < S.V.length := by
              rw [hSV, hSVl, hjl]
              unfold shN
              split
              · omega
              · split <;> omega
            have h1 := h _ h2
            rw [hSV, hbat i (by omega), if_neg e, hat i (by omega)] at h1
            exact h1
      · rintro ⟨h1, h2⟩ j hj
        rw [hSV, hSVl, hjl] at hj
        rw [hSV]
        by_cases h : j < V.length
        · rw [hbl j (by omega), hleft j h]
          split
          · rename_i e
            rw [e, hmn]
            have q1 := h1 k (by omega)
            have q2 := h2 l (by omega)
            rw [← inV_ord (fun he => oA k (by omega) he)] at q1
            rw [← inV_ord (fun he => oB l (by omega) he), hws] at q2
            exact ⟨q1, q2⟩
          · rw [inV_ord (fun he => oA j (by omega) he)]
            exact h1 j (by omega)
        · obtain ⟨i, i1, i2, i3⟩ := shN_surj (n := V.length) (k := k) (l := l) (m := W.length) hl (j := j) (by omega) (by omega)
          rw [← i3, hbat i (by omega), if_neg i2, hat i (by omega), inV_ord (fun he => oB i (by omega) he)]
          exact h2 i (by omega)
    -- equations
    have hqA : ∀ q ∈ A.Q, imQ S (shJ V w l) q = imQ A V q := fun q hq => by
      obtain ⟨q1, q2, _, q4⟩ := form_q fA hq
      obtain ⟨e1, e2⟩ := exps_congr (L := V) (L' := shJ V w l) (q := q) (q' := q) id (by rw [List.map_id]) (fun t ht => ⟨rfl, rfl, by
        obtain ⟨_, t2, _⟩ := q4 t ht
        exact hleft _ (by rw [hV]; exact t2)⟩)
      refine (imQ_congr ?_ e1 e2).symm
      unfold grpS
      rw [hSG, join_left _ _ _ q2]
    have hqB : ∀ q ∈ B.Q, imQ S (shJ V w l) (jQ A.G.length (flJ B.V 0 J VV).1 q) = imQ B w q := fun q hq => by
      obtain ⟨q1, q2, _, q4⟩ := form_q fB hq
      obtain ⟨e1, e2⟩ := exps_congr (L := w) (L' := shJ V w l) (q := q) (q' := jQ A.G.length (flJ B.V 0 J VV).1 q) (clT (flJ B.V 0 J VV).1) rfl (fun t ht => ⟨rfl, rfl, by
        obtain ⟨_, t2, _⟩ := q4 t ht
        show (shJ V w l).getD ((flJ B.V 0 J VV).1.getD t.2.1.toNat 0).toNat _ = _
        rw [hpl _ (by omega), Int.toNat_natCast]
        exact hat _ (by omega)⟩)
      refine (imQ_congr ?_ e1 e2).symm
      unfold grpS jQ
      rw [hSG]
      simp only [List.getD_eq_getElem?_getD]
      rw [List.getElem?_append_right (by omega)]
      congr 2
      omega
    have cA : (A.Q.all fun q => (imQ S (shJ V w l) q).toList == q.2.1.toList) = A.Q.all fun q => (imQ A V q).toList == q.2.1.toList := by
      rw [Bool.eq_iff_iff, List.all_eq_true, List.all_eq_true]
      exact ⟨fun h q hq => by have := h q hq; rw [hqA q hq] at this; exact this, fun h q hq => by rw [hqA q hq]; exact h q hq⟩
    have cB : (B.Q.all ((fun q => (imQ S (shJ V w l) q).toList == q.2.1.toList) ∘ jQ A.G.length (flJ B.V 0 J VV).1)) = B.Q.all fun q => (imQ B w q).toList == q.2.1.toList := by
      rw [Bool.eq_iff_iff, List.all_eq_true, List.all_eq_true]
      exact ⟨fun h q hq => by have := h q hq; simp only [Function.comp] at this; rw [hqB q hq] at this; exact this, fun h q hq => by simp only [Function.comp]; rw [hqB q hq]; exact h q hq⟩
    rw [cA, cB, hin]
    constructor
    · rintro ⟨⟨a, b⟩, c, d⟩; exact ⟨⟨a, c⟩, b, d⟩
    · rintro ⟨⟨a, c⟩, b, d⟩; exact ⟨⟨a, b⟩, c, d⟩
  · intro h
    have : ¬ (shJ V w l).all ivB = true := fun a3 => by
      rw [all_iff] at a3
      rcases h with h | h
      · refine h ?_
        rw [rd_of fA rA hV, if_pos ((all_iff V).2 fun i hi => ?_)]
        have := a3 i (by omega)
        rw [hleft i hi] at this
        exact this
      · refine h ?_
        rw [rd_of fB rB (by omega), if_pos ((all_iff w).2 fun i hi => ?_)]
        have h2 : shN V.length k l i < (shJ V w l).length := by
          rw [hjl]
          unfold shN
          split
          · omega
          · split <;> omega
        have := a3 _ h2
        rw [hat i hi] at this
        exact this
    unfold hldS
    rw [rd_of fS rS (by rw [hSV, hSVl]), if_neg this]
    rfl
end
end Go.Proofs.YtdhhbjmkdmbffaaGreatDoor

/- LinearShares: the argument opened. -/
namespace Go.Proofs.YtdhhbjmkdmbffaaGreatDoor
open Go.RowKit Go.WideShapes Go.ChangeShapes Go.ChangeAt Num
set_option linter.unusedVariables false
set_option maxRecDepth 20000
/-- two statements with witnesses, in memory -/
structure TwA where
  a : StA
  b : StA
  A : StM
  B : StM
  vo : Option Addr
  vc : Nat
  V : List (Bool × ByteArray)
  wo : Option Addr
  wc : Nat
  W : List (Bool × ByteArray)
def TwA.cs (x : TwA) : Array Value := #[.slice x.a.ga x.A.G.length x.a.gc, .slice x.a.va x.A.V.length x.a.vc, .slice x.a.qa x.A.Q.length x.a.qc, .slice x.b.ga x.B.G.length x.b.gc, .slice x.b.va x.B.V.length x.b.vc, .slice x.b.qa x.B.Q.length x.b.qc, .slice x.vo x.V.length x.vc, .slice x.wo x.W.length x.wc]
structure TwK (w : World) (x : TwA) : Prop where
  okA : x.A.ok
  okB : x.B.ok
  sA : SS w x.a x.A
  sB : SS w x.b x.B
  iV : IS w x.vo x.V
  iW : IS w x.wo x.W
  lV : x.V.length ≤ maxLen
  lW : x.W.length ≤ maxLen
  zV : ∀ y ∈ x.V, y.2.size ≤ maxLen
  zW : ∀ y ∈ x.W, y.2.size ≤ maxLen
theorem own_setK {W : World} {K size n g c i : Nat} {e : TypeId} {x : Value} {xs : List Value} (h : W.ownsRow K e size (.slice (some ⟨g, 0, none⟩) n c) n xs) : (W.setCell ⟨g, i, none⟩ x).ownsRow K e size (.slice (some ⟨g, 0, none⟩) n c) n (xs.set i x) := by
  obtain ⟨h0, h⟩ := h
  refine ⟨by rw [List.length_set]; exact h0, ?_⟩
  rcases h with ⟨h, _⟩ | ⟨g', cap, cur, h1, h2, h3, h4, h5, h6, h7⟩
  · cases h
  · injection h1 with h1 _ h1'
    injection h1 with h1
    injection h1 with h1 _ _
    subst h1 h1'
    refine .inr ⟨g, c, cur.setIfInBounds i x, rfl, h2, ?_, h4, h5, by rw [Array.size_setIfInBounds]; exact h6, ?_⟩
    · simp only [World.setCell, Array.getElem?_modify, if_true, h3, Option.map_some]
      simp
    · rw [Array.toList_setIfInBounds, List.take_set, h7]
theorem icl_set : ∀ (L : List (Bool × ByteArray)) (l : Nat) (b : Bool) (s : ByteArray), ((icl L).set (l * 2) (.bool b)).set (l * 2 + 1) (.string s) = icl (L.set l (b, s))
  | [], l, b, s => rfl
  | e :: L, 0, b, s => rfl
  | e :: L, l + 1, b, s => by
    have ih := icl_set L l b s
    show (((_ :: _ :: icl L).set ((l + 1) * 2) _).set ((l + 1) * 2 + 1) _) = (_ :: _ :: icl (L.set l (b, s)))
    rw [show (l + 1) * 2 = l * 2 + 1 + 1 by omega, show l * 2 + 1 + 1 + 1 = (l * 2 + 1) + 1 + 1 by omega]
    rw [List.set_cons_succ, List.set_cons_succ, List.set_cons_succ, List.set_cons_succ, ih]
theorem IS.cellsA {w : World} {A : Addr} {L : List (Bool × ByteArray)} (h : IS w (some A) L) : ∀ j x, (icl L)[j]? = some x → w.cell? (A.add j) = some x := by
  intro j x hj
  obtain ⟨hk, hh⟩ := fcl_inv _ 2 (by omega) (fun _ => rfl) L j x hj
  obtain ⟨b, off, he, c0, c1⟩ := h (j / 2) hk
  injection he with he
  subst he
  rw [addr_addT]
  have h2 : j % 2 = 0 ∨ j % 2 = 1 := by omega
  rcases h2 with e | e
  · rw [e] at hh; simp at hh; subst hh; rw [show off + j = off + j / 2 * 2 by omega]; exact c0
  · rw [e] at hh; simp at hh; subst hh; rw [show off + j = off + j / 2 * 2 + 1 by omega]; exact c1
theorem IS.nilL {w : World} {ao : Option Addr} {L : List (Bool × ByteArray)} (h : IS w ao L) : ao = none → L.length = 0 := fun e => by
  cases L with
  | nil => rfl
  | cons x r => obtain ⟨b, off, he, _⟩ := h 0 (by simp); rw [e] at he; cases he
theorem icl_one (L : List (Bool × ByteArray)) : ∀ x ∈ icl L, Value.oneCell' x = true := fun x h => by
  obtain ⟨g, _, h⟩ := List.mem_flatMap.1 h
  simp only [List.mem_cons, List.not_mem_nil, or_false] at h
  rcases h with rfl | rfl <;> rfl
/-- the joined witness, built -/
def jwS (V w : List (Bool × ByteArray)) (l n : Nat) : List (Bool × ByteArray) := V ++ (w.take n).eraseIdx l
theorem jwS_zero (V w : List (Bool × ByteArray)) (l : Nat) : jwS V w l 0 = V := by simp [jwS]
theorem jwS_all (V w : List (Bool × ByteArray)) (l n : Nat) (h : w.length ≤ n) : jwS V w l n = shJ V w l := by unfold jwS shJ; rw [List.take_of_length_le h]
theorem jwS_len (V w : List (Bool × ByteArray)) {l n : Nat} (h : n ≤ w.length) : (jwS V w l n).length = V.length + (n - if l < n then 1 else 0) := by
  unfold jwS
  rw [List.length_append, List.length_eraseIdx, List.length_take]
  split <;> split <;> omega
theorem jwS_same (V w : List (Bool × ByteArray)) {l : Nat} (h : l < w.length) : jwS V w l (l + 1) = jwS V w l l := by
  unfold jwS
  have h1 : (w.take l).length = l := by rw [List.length_take]; omega
  rw [List.take_succ_eq_append_getElem h, List.eraseIdx_append_of_length_le (by omega), h1, Nat.sub_self, List.eraseIdx_of_length_le (l := w.take l) (by omega)]
  simp
theorem jwS_succ (V w : List (Bool × ByteArray)) {l n : Nat} (h : n < w.length) (hne : n ≠ l) : jwS V w l (n + 1) = jwS V w l n ++ [w[n]] := by
  unfold jwS
  rw [List.take_succ_eq_append_getElem h, List.append_assoc]
  congr 1
  by_cases hl : l < n
  · rw [List.eraseIdx_append_of_lt_length (by rw [List.length_take]; omega)]
  · rw [List.eraseIdx_of_length_le (by rw [List.length_append, List.length_take, List.length_singleton]; omega), List.eraseIdx_of_length_le (by rw [List.length_take]; omega)]
theorem shW_get (V W : List (Bool × ByteArray)) (k l : Nat) (x : Bool × ByteArray) (h : x ∈ shW V W k l) : x ∈ W ∨ x = V.getD k (false, ⟨#[]⟩) := by
  unfold shW at h
  rcases List.mem_or_eq_of_mem_set h with h | h
  · exact .inl h
  · exact .inr h
theorem shJ_mem (V w : List (Bool × ByteArray)) (l : Nat) (x : Bool × ByteArray) (h : x ∈ shJ V w l) : x ∈ V ∨ x ∈ w := by
  unfold shJ at h
  rcases List.mem_append.1 h with h | h
  · exact .inl h
  · exact .inr (List.mem_of_mem_eraseIdx h)
theorem fip_mem {L : List (Bool × ByteArray)} (h : FIP L) : ∀ x ∈ L, x.2.size ≤ 24 := fun x hx => by
  obtain ⟨i, hi, rfl⟩ := List.mem_iff_getElem.1 hx
  exact h.2 i hi
theorem fip_shW {V W : List (Bool × ByteArray)} (hV : FIP V) (hW : FIP W) {k l : Nat} (hk : k < V.length) : FIP (shW V W k l) :=
  ⟨by unfold shW; rw [List.length_set]; exact hW.1, fun i hi => by
    rcases shW_get V W k l _ (List.getElem_mem hi) with h | h
    · exact fip_mem hW _ h
    · rw [h]
      have : V.getD k (false, ⟨#[]⟩) = V[k] := by simp [List.getD_eq_getElem?_getD, hk]
      rw [this]
      exact hV.2 k hk⟩
theorem sms_join {A B S : StM} {r : List Int × List ByteArray} {V w : List (Bool × ByteArray)} {l : Nat} (hA : FewP A) (hB : FewP B) (hV : FIP V) (hw : FIP w) (h : S.pl = jnS A.pl B.pl r) : SmS S (shJ V w l) := by
  have qA : ∀ q ∈ A.pl.Q, SzQ q := fun q hq => by
    obtain ⟨x, hx, rfl⟩ := List.mem_map.1 hq
    exact (few_sms hA hV).q x hx
  have qB : ∀ q ∈ B.pl.Q, SzQ q := fun q hq => by
    obtain ⟨x, hx, rfl⟩ := List.mem_map.1 hq
    exact (few_sms hB hw).q x hx
  refine ⟨fun q hq => ?_, fun x hx => ?_⟩
  · have h1 : eqp q ∈ S.pl.Q := List.mem_map_of_mem hq
    rw [h] at h1
    rcases List.mem_append.1 (show eqp q ∈ A.pl.Q ++ B.pl.Q.map (jQ A.pl.G.length r.1) from h1) with h2 | h2
    · exact qA _ h2
    · obtain ⟨y, hy, e⟩ := List.mem_map.1 h2
      rw [← e]
      intro t ht
      obtain ⟨u, hu, rfl⟩ := List.mem_map.1 (show t ∈ y.2.2.map (clT r.1) from ht)
      exact qB y hy u hu
  · rcases shJ_mem V w l x hx with h2 | h2
    · have := fip_mem hV x h2; omega
    · have := fip_mem hw x h2; omega
section
variable {H : Type} {enc : TypeId × Value → H} {W : World} {base fuel : Nat} {v : Value} {d : DataW H} {p : List MemPlace} {c : Value} {y0 : DataW H × List MemPlace}
theorem rows_ints (h : DataW.trod enc Tryz.prog W 0 (fun _ => true) true fuel 59 [c] = some y0) :
    ∃ (ao : Option Addr) (cm : Nat) (L : List (Bool × ByteArray)), c = .slice ao L.length cm ∧ L.length ≤ maxLen ∧ (∀ x ∈ L, x.2.size ≤ maxLen) ∧ IS W ao L := by
  obtain ⟨ao, cm, L, h1, h2, h3⟩ := open_rows (k := 2) (α := Bool × ByteArray) (fun q f => f 0 = some (.bool q.1) ∧ f 1 = some (.string q.2) ∧ q.2.size ≤ maxLen) Tryz.underlying59 (by kernel_rfl) (by omega) (fun n cs y hy hl => by
    obtain ⟨s0, e0⟩ := fld_bool (j := 0) Tryz.underlying36 rfl Tryz.underlying4 (by kernel_rfl) hy
    obtain ⟨s1, e1, z1⟩ := fld_string (j := 1) Tryz.underlying36 rfl Tryz.underlying25 (by kernel_rfl) hy
    exact ⟨(s0, s1), e0, e1, z1⟩) h
  refine ⟨ao, cm, L, h1, h2, fun x hx => ?_, fun k hk => ?_⟩
  · obtain ⟨i, hi, rfl⟩ := List.mem_iff_getElem.1 hx
    obtain ⟨_, _, _, _, _, z1⟩ := h3 i hi
    exact z1
  · obtain ⟨b, off, h4, h5, h6, _⟩ := h3 k hk
    exact ⟨b, off, h4, by simpa using h5, by simpa using h6⟩
theorem open_Tw (hv : Value.okWide Tryz.prog W .any base 80 v) (h : DataW.Trod enc Tryz.prog W 0 (fun _ => true) true 80 v d p) :
    ∃ x : TwA, v = .agg x.cs ∧ TwK W x := by
  obtain ⟨cs, rfl, hsz⟩ := okWide_struct Tryz.underlying80 hv
  obtain ⟨l⟩ := cs
  obtain ⟨fuel, hf⟩ := h
  have hf' : DataW.trod enc Tryz.prog W 0 (fun _ => true) true fuel 80 l = some (d, p) := hf
  obtain ⟨n0, y0, hy0⟩ := fld (j := 0) Tryz.underlying80 rfl hf'
  obtain ⟨n1, y1, hy1⟩ := fld (j := 1) Tryz.underlying80 rfl hf'
  obtain ⟨n2, y2, hy2⟩ := fld (j := 2) Tryz.underlying80 rfl hf'
  obtain ⟨n3, y3, hy3⟩ := fld (j := 3) Tryz.underlying80 rfl hf'
  have hl : l.length = 8 := hsz.trans (by kernel_rfl)
  match l, hl with
  | [c0, c1, c2, c3, c4, c5, c6, c7], _ =>
  have e3 : Tryz.prog.cellsOf 49 = 3 := by kernel_rfl
  have e1 : Tryz.prog.cellsOf 59 = 1 := by kernel_rfl
  replace hy0 : DataW.trod enc Tryz.prog W 0 (fun _ => true) true n0 49 [c0, c1, c2] = some y0 := hy0
  replace hy1 : DataW.trod enc Tryz.prog W 0 (fun _ => true) true n1 49 [c3, c4, c5] = some y1 := hy1
  replace hy2 : DataW.trod enc Tryz.prog W 0 (fun _ => true) true n2 59 [c6] = some y2 := hy2
  replace hy3 : DataW.trod enc Tryz.prog W 0 (fun _ => true) true n3 59 [c7] = some y3 := hy3
  obtain ⟨a, A, hA, okA, sA⟩ := rows_stm rfl hy0
  obtain ⟨b, B, hB, okB, sB⟩ := rows_stm rfl hy1
  obtain ⟨vo, vc, V, rfl, v1, v2, v3⟩ := rows_ints hy2
  obtain ⟨wo, wc, W', rfl, w1, w2, w3⟩ := rows_ints hy3
  simp only [List.cons.injEq, and_true] at hA hB
  obtain ⟨rfl, rfl, rfl⟩ := hA
  obtain ⟨rfl, rfl, rfl⟩ := hB
  exact ⟨⟨a, b, A, B, vo, vc, V, wo, wc, W'⟩, rfl, ⟨okA, okB, sA, sB, v3, w3, v1, w1, v2, w2⟩⟩
end
end Go.Proofs.YtdhhbjmkdmbffaaGreatDoor

/- The law LinearShares. -/
namespace Go.Proofs.YtdhhbjmkdmbffaaGreatDoor
open Go.RowKit Num
set_option maxRecDepth 20000
set_option linter.unusedVariables false
theorem own_someT {w : World} {K e size n : Nat} {v : Value} {xs : List Value} (h : w.ownsRow K e size v n xs) (h0 : 0 < n) : ∃ g cap, v = .slice (some ⟨g, 0, none⟩) n cap := by
  rcases h.2 with ⟨_, h1⟩ | ⟨g, cap, cur, e, _⟩
  · omega
  · exact ⟨g, cap, e⟩
theorem info_int9 : (Tryz.prog.info? 36).map (fun i => (i.zero, i.size, i.bytes)) = some (some (.agg #[.bool false, .string ⟨#[]⟩]), 2, 24) := by kernel_rfl
set_option maxHeartbeats 32000000 in
theorem lshares_walk (x : TwA) (i j : Nat) (w : World) (hK : TwK w x) (hi : i < 256) (hj : j < 256) :
    Calls Tryz.prog 5 #[.agg x.cs, .int .u8 (i : Int), .int .u8 (j : Int)] w fun e w' => e = .returned (.bool true) ∧ Below w.heap.size w w' := by
  obtain ⟨a, b, A, B, vo, vc, V, wo, wc, W⟩ := x
  obtain ⟨okA, okB, sA, sB, iV, iW, lV, lW, zV, zW⟩ := hK
  simp only at okA okB sA sB iV iW lV lW zV zW
  show Calls Tryz.prog 5 #[.agg #[.slice a.ga A.G.length a.gc, .slice a.va A.V.length a.vc, .slice a.qa A.Q.length a.qc, .slice b.ga B.G.length b.gc, .slice b.va B.V.length b.vc, .slice b.qa B.Q.length b.qc, .slice vo V.length vc, .slice wo W.length wc], .int .u8 (i : Int), .int .u8 (j : Int)] w _
  have hb := (Below.refl _ w).alloc (Nat.le_refl _) (.cells #[.slice a.ga A.G.length a.gc, .slice a.va A.V.length a.vc, .slice a.qa A.Q.length a.qc, .slice b.ga B.G.length b.gc, .slice b.va B.V.length b.vc, .slice b.qa B.Q.length b.qc, .slice vo V.length vc, .slice wo W.length wc] 80)
  have hN := heap_alloc_new w (.cells #[.slice a.ga A.G.length a.gc, .slice a.va A.V.length a.vc, .slice a.qa A.Q.length a.qc, .slice b.ga B.G.length b.gc, .slice b.va B.V.length b.vc, .slice b.qa B.Q.length b.qc, .slice vo V.length vc, .slice wo W.length wc] 80)
  have c0 : (w.alloc (.cells #[.slice a.ga A.G.length a.gc, .slice a.va A.V.length a.vc, .slice a.qa A.Q.length a.qc, .slice b.ga B.G.length b.gc, .slice b.va B.V.length b.vc, .slice b.qa B.Q.length b.qc, .slice vo V.length vc, .slice wo W.length wc] 80)).cell? ⟨w.heap.size, 0, none⟩ = some (.slice a.ga A.G.length a.gc) := by rw [Lib.cell_of_heap hN]; rfl
  have c1 : (w.alloc (.cells #[.slice a.ga A.G.length a.gc, .slice a.va A.V.length a.vc, .slice a.qa A.Q.length a.qc, .slice b.ga B.G.length b.gc, .slice b.va B.V.length b.vc, .slice b.qa B.Q.length b.qc, .slice vo V.length vc, .slice wo W.length wc] 80)).cell? ⟨w.heap.size, 1, none⟩ = some (.slice a.va A.V.length a.vc) := by rw [Lib.cell_of_heap hN]; rfl
  have c2 : (w.alloc (.cells #[.slice a.ga A.G.length a.gc, .slice a.va A.V.length a.vc, .slice a.qa A.Q.length a.qc, .slice b.ga B.G.length b.gc, .slice b.va B.V.length b.vc, .slice b.qa B.Q.length b.qc, .slice vo V.length vc, .slice wo W.length wc] 80)).cell? ⟨w.heap.size, 2, none⟩ = some (.slice a.qa A.Q.length a.qc) := by rw [Lib.cell_of_heap hN]; rfl
  have c3 : (w.alloc (.cells #[.slice a.ga A.G.length a.gc, .slice a.va A.V.length a.vc, .slice a.qa A.Q.length a.qc, .slice b.ga B.G.length b.gc, .slice b.va B.V.length b.vc, .slice b.qa B.Q.length b.qc, .slice vo V.length vc, .slice wo W.length wc] 80)).cell? ⟨w.heap.size, 3, none⟩ = some (.slice b.ga B.G.length b.gc) := by rw [Lib.cell_of_heap hN]; rfl
  have c4 : (w.alloc (.cells #[.slice a.ga A.G.length a.gc, .slice a.va A.V.length a.vc, .slice a.qa A.Q.length a.qc, .slice b.ga B.G.length b.gc, .slice b.va B.V.length b.vc, .slice b.qa B.Q.length b.qc, .slice vo V.length vc, .slice wo W.length wc] 80)).cell? ⟨w.heap.size, 4, none⟩ = some (.slice b.va B.V.length b.vc) := by rw [Lib.cell_of_heap hN]; rfl
  have c5 : (w.alloc (.cells #[.slice a.ga A.G.length a.gc, .slice a.va A.V.length a.vc, .slice a.qa A.Q.length a.qc, .slice b.ga B.G.length b.gc, .slice b.va B.V.length b.vc, .slice b.qa B.Q.length b.qc, .slice vo V.length vc, .slice wo W.length wc] 80)).cell? ⟨w.heap.size, 5, none⟩ = some (.slice b.qa B.Q.length b.qc) := by rw [Lib.cell_of_heap hN]; rfl
  have c6 : (w.alloc (.cells #[.slice a.ga A.G.length a.gc, .slice a.va A.V.length a.vc, .slice a.qa A.Q.length a.qc, .slice b.ga B.G.length b.gc, .slice b.va B.V.length b.vc, .slice b.qa B.Q.length b.qc, .slice vo V.length vc, .slice wo W.length wc] 80)).cell? ⟨w.heap.size, 6, none⟩ = some (.slice vo V.length vc) := by rw [Lib.cell_of_heap hN]; rfl
  have c7 : (w.alloc (.cells #[.slice a.ga A.G.length a.gc, .slice a.va A.V.length a.vc, .slice a.qa A.Q.length a.qc, .slice b.ga B.G.length b.gc, .slice b.va B.V.length b.vc, .slice b.qa B.Q.length b.qc, .slice vo V.length vc, .slice wo W.length wc] 80)).cell? ⟨w.heap.size, 7, none⟩ = some (.slice wo W.length wc) := by rw [Lib.cell_of_heap hN]; rfl
  have sA0 := sA.below hb (Nat.le_refl _)
  have sB0 := sB.below hb (Nat.le_refl _)
  have iV0 := iV.below hb (Nat.le_refl _)
  have iW0 := iW.below hb (Nat.le_refl _)
  have HFA := Lib.hid (fun w' (hb' : Below _ _ w') => few_any a A w' (sA0.below hb' (Nat.le_refl _)) okA)
  have HFB := Lib.hid (fun w' (hb' : Below _ _ w') => few_any b B w' (sB0.below hb' (Nat.le_refl _)) okB)
  have HFV := Lib.hid (fun w' (hb' : Below _ _ w') => fewInts_any vo V.length vc V w' (iV0.below hb' (Nat.le_refl _)) rfl lV zV)
  have HFW := Lib.hid (fun w' (hb' : Below _ _ w') => fewInts_any wo W.length wc W w' (iW0.below hb' (Nat.le_refl _)) rfl lW zW)
  have HJN := Lib.hid (fun w' (hb' : Below _ _ w') (po : Option Addr) (P : List PRt) (hP : PSl w' po P) (hl : P.length = 1) => ljoin_any a b A B po 1 1 P w' (sA0.below hb' (Nat.le_refl _)) (sB0.below hb' (Nat.le_refl _)) okA okB hP hl (by omega))
  have HHA := Lib.hid (fun w' (hb' : Below _ _ w') (h1 : FewP A) (h2 : FIP V) => holds_any a A vo V.length vc V w' (sA0.below hb' (Nat.le_refl _)) okA (iV0.below hb' (Nat.le_refl _)) rfl lV (few_sms h1 h2))
  have HHB := Lib.hid (fun w' (hb' : Below _ _ w') (bo : Option Addr) (n c : Nat) (L : List (Bool × ByteArray)) (hL : IS w' bo L) (hn : L.length = n) (h1 : FewP B) (h2 : FIP L) => holds_any b B bo n c L w' (sB0.below hb' (Nat.le_refl _)) okB hL hn (by have := h2.1; unfold maxLen; omega) (few_sms h1 h2))
  have HIV := Lib.hid (fun w' (hb' : Below _ _ w') => iV0.below hb' (Nat.le_refl _))
  have HIW := Lib.hid (fun w' (hb' : Below _ _ w') => iW0.below hb' (Nat.le_refl _))
  unfold FWP at HFA HFB HFV HFW
  unfold JoP at HJN
  clear okA okB sA sB iV iW lV lW zV zW sA0 sB0 iV0 iW0 hN
  go_enter Tryz.func5, Tryz.ntmps5
  go_wp2_with fail
  generalize hw0 : World.alloc w _ = w0 at hb c0 c1 c2 c3 c4 c5 c6 c7 HFA HFB HFV HFW HJN HHA HHB HIV HIW ⊢
  clear hw0
  have hB := Below.refl w0.heap.size w0
  refine (HFA.out _ hB).mono ?_; rintro e w1 ⟨T, rfl, hT, b1⟩
  replace hB := hB.trans (b1.mono hB.size)
  have hbw := hb.trans (hB.mono hb.size)
  replace c0 := cells_keepL b1 (Nat.le_refl _) _ _ c0
  replace c1 := cells_keepL b1 (Nat.le_refl _) _ _ c1
  replace c2 := cells_keepL b1 (Nat.le_refl _) _ _ c2
  replace c3 := cells_keepL b1 (Nat.le_refl _) _ _ c3
  replace c4 := cells_keepL b1 (Nat.le_refl _) _ _ c4
  replace c5 := cells_keepL b1 (Nat.le_refl _) _ _ c5
  replace c6 := cells_keepL b1 (Nat.le_refl _) _ _ c6
  replace c7 := cells_keepL b1 (Nat.le_refl _) _ _ c7
  clear b1 HFA
  cases T
  · clear hT
    go_wp2_with fail
    refine (awakeL _).mono ?_; rintro e w9 ⟨rfl, b9⟩
    have hb9 := hbw.trans (b9.mono hbw.size)
    go_wp2_with fail
    go_ret
    exact ⟨rfl, hb9⟩
  have HA := Lib.hid (hT rfl)
  clear hT
  clear hbw
  go_wp2_with fail
  refine (HFB.out _ hB).mono ?_; rintro e w1 ⟨T, rfl, hT, b1⟩
  replace hB := hB.trans (b1.mono hB.size)
  have hbw := hb.trans (hB.mono hb.size)
  replace c0 := cells_keepL b1 (Nat.le_refl _) _ _ c0
  replace c1 := cells_keepL b1 (Nat.le_refl _) _ _ c1
  replace c2 := cells_keepL b1 (Nat.le_refl _) _ _ c2
  replace c3 := cells_keepL b1 (Nat.le_refl _) _ _ c3
  replace c4 := cells_keepL b1 (Nat.le_refl _) _ _ c4
  replace c5 := cells_keepL b1 (Nat.le_refl _) _ _ c5
  replace c6 := cells_keepL b1 (Nat.le_refl _) _ _ c6
  replace c7 := cells_keepL b1 (Nat.le_refl _) _ _ c7
  clear b1 HFB
  cases T
  · clear hT
    go_wp2_with fail
    refine (awakeL _).mono ?_; rintro e w9 ⟨rfl, b9⟩
    have hb9 := hbw.trans (b9.mono hbw.size)
    go_wp2_with fail
    go_ret
    exact ⟨rfl, hb9⟩
  have HB := Lib.hid (hT rfl)
  clear hT
  clear hbw
  go_wp2_with fail
  refine (HFV.out _ hB).mono ?_; rintro e w1 ⟨T, rfl, hT, b1⟩
  replace hB := hB.trans (b1.mono hB.size)
  have hbw := hb.trans (hB.mono hb.size)
  replace c0 := cells_keepL b1 (Nat.le_refl _) _ _ c0
  replace c1 := cells_keepL b1 (Nat.le_refl _) _ _ c1
  replace c2 := cells_keepL b1 (Nat.le_refl _) _ _ c2
  replace c3 := cells_keepL b1 (Nat.le_refl _) _ _ c3
  replace c4 := cells_keepL b1 (Nat.le_refl _) _ _ c4
  replace c5 := cells_keepL b1 (Nat.le_refl _) _ _ c5
  replace c6 := cells_keepL b1 (Nat.le_refl _) _ _ c6
  replace c7 := cells_keepL b1 (Nat.le_refl _) _ _ c7
  clear b1 HFV
  cases T
  · clear hT
    go_wp2_with fail
    refine (awakeL _).mono ?_; rintro e w9 ⟨rfl, b9⟩
    have hb9 := hbw.trans (b9.mono hbw.size)
    go_wp2_with fail
    go_ret
    exact ⟨rfl, hb9⟩
  have HV := Lib.hid (hT rfl)
  clear hT
  clear hbw
  go_wp2_with fail
  refine (HFW.out _ hB).mono ?_; rintro e w1 ⟨T, rfl, hT, b1⟩
  replace hB := hB.trans (b1.mono hB.size)
  have hbw := hb.trans (hB.mono hb.size)
  replace c0 := cells_keepL b1 (Nat.le_refl _) _ _ c0
  replace c1 := cells_keepL b1 (Nat.le_refl _) _ _ c1
  replace c2 := cells_keepL b1 (Nat.le_refl _) _ _ c2
  replace c3 := cells_keepL b1 (Nat.le_refl _) _ _ c3
  replace c4 := cells_keepL b1 (Nat.le_refl _) _ _ c4
  replace c5 := cells_keepL b1 (Nat.le_refl _) _ _ c5
  replace c6 := cells_keepL b1 (Nat.le_refl _) _ _ c6
  replace c7 := cells_keepL b1 (Nat.le_refl _) _ _ c7
  clear b1 HFW
  cases T
  · clear hT
    go_wp2_with fail
    refine (awakeL _).mono ?_; rintro e w9 ⟨rfl, b9⟩
    have hb9 := hbw.trans (b9.mono hbw.size)
    go_wp2_with fail
    go_ret
    exact ⟨rfl, hb9⟩
  have HW := Lib.hid (hT rfl)
  clear hT
  by_cases t0 : V.length = A.V.length
  rotate_left
  · have q0 : ((V.length : Int) != (A.V.length : Int)) = true := by rw [bne_iff_ne]; omega
    go_wp2_with fail
    refine (awakeL _).mono ?_; rintro e w9 ⟨rfl, b9⟩
    have hb9 := hbw.trans (b9.mono hbw.size)
    go_wp2_with fail
    go_ret
    exact ⟨rfl, hb9⟩
  have q0 : ((V.length : Int) != (A.V.length : Int)) = false := by rw [bne_eq_false_iff_eq]; omega
  have HT0 := Lib.hid t0
  clear t0
  by_cases t1 : W.length = B.V.length
  rotate_left
  · have q1 : ((W.length : Int) != (B.V.length : Int)) = true := by rw [bne_iff_ne]; omega
    go_wp2_with fail
    refine (awakeL _).mono ?_; rintro e w9 ⟨rfl, b9⟩
    have hb9 := hbw.trans (b9.mono hbw.size)
    go_wp2_with fail
    go_ret
    exact ⟨rfl, hb9⟩
  have q1 : ((W.length : Int) != (B.V.length : Int)) = false := by rw [bne_eq_false_iff_eq]; omega
  have HT1 := Lib.hid t1
  clear t1
  by_cases t2 : V.length = 0
  · have q2 : ((V.length : Int) == 0) = true := by rw [beq_iff_eq]; omega
    clear t2
    go_wp2_with fail
    refine (awakeL _).mono ?_; rintro e w9 ⟨rfl, b9⟩
    have hb9 := hbw.trans (b9.mono hbw.size)
    go_wp2_with fail
    go_ret
    exact ⟨rfl, hb9⟩
  have q2 : ((V.length : Int) == 0) = false := by rw [beq_eq_false_iff_ne]; omega
  by_cases t3 : W.length = 0
  · have q3 : ((W.length : Int) == 0) = true := by rw [beq_iff_eq]; omega
    clear t3
    go_wp2_with fail
    refine (awakeL _).mono ?_; rintro e w9 ⟨rfl, b9⟩
    have hb9 := hbw.trans (b9.mono hbw.size)
    go_wp2_with fail
    go_ret
    exact ⟨rfl, hb9⟩
  have q3 : ((W.length : Int) == 0) = false := by rw [beq_eq_false_iff_ne]; omega
  go_upto_region 3 with fail
  clear q0 q1 q2 q3
  obtain ⟨k, hk⟩ : ∃ k, i % V.length = k := ⟨_, rfl⟩
  obtain ⟨l, hl⟩ : ∃ l, j % W.length = l := ⟨_, rfl⟩
  have hkV : k < V.length := by rw [← hk]; exact Nat.mod_lt _ (by omega)
  have hlW : l < W.length := by rw [← hl]; exact Nat.mod_lt _ (by omega)
  have m1 : (i : Int).tmod (V.length : Int) = (k : Int) := by rw [Int.tmod_eq_emod_of_nonneg (by omega), ← hk]; simp
  have m2 : (j : Int).tmod (W.length : Int) = (l : Int) := by rw [Int.tmod_eq_emod_of_nonneg (by omega), ← hl]; simp
  have wi : IntKind.i64.wrap (i : Int) = (i : Int) := by rw [IntKind.wrap_i64]; omega
  have wj : IntKind.i64.wrap (j : Int) = (j : Int) := by rw [IntKind.wrap_i64]; omega
  have wk : IntKind.i64.wrap (k : Int) = (k : Int) := by rw [IntKind.wrap_i64]; have := HV.out.1; omega
  have wl : IntKind.i64.wrap (l : Int) = (l : Int) := by rw [IntKind.wrap_i64]; have := HW.out.1; omega
  have u1 : ¬ ((V.length : Int) = 0) := by omega
  have u2 : ¬ ((W.length : Int) = 0) := by omega
  clear hk hl
  go_quiet (fail)
  have bq : Below w1.heap.size w1 (w1.drewN nq) := Below.drewNL _ _ _
  replace hB := hB.trans (bq.mono hB.size)
  replace hbw := hbw.trans (bq.mono hbw.size)
  replace c0 := cells_keepL bq (Nat.le_refl _) _ _ c0
  replace c1 := cells_keepL bq (Nat.le_refl _) _ _ c1
  replace c2 := cells_keepL bq (Nat.le_refl _) _ _ c2
  replace c3 := cells_keepL bq (Nat.le_refl _) _ _ c3
  replace c4 := cells_keepL bq (Nat.le_refl _) _ _ c4
  replace c5 := cells_keepL bq (Nat.le_refl _) _ _ c5
  replace c6 := cells_keepL bq (Nat.le_refl _) _ _ c6
  replace c7 := cells_keepL bq (Nat.le_refl _) _ _ c7
  generalize World.drewN _ _ = w2 at hB hbw c0 c1 c2 c3 c4 c5 c6 c7 ⊢
  clear bq m1 m2 wi wj wk wl u1 u2
  have hbA := (Below.refl _ w2).alloc (Nat.le_refl _) (.cells #[.int .i64 (k : Int), .int .i64 (l : Int)] 82)
  have hN := heap_alloc_new w2 (.cells #[.int .i64 (k : Int), .int .i64 (l : Int)] 82)
  have n0 : (w2.alloc (.cells #[.int .i64 (k : Int), .int .i64 (l : Int)] 82)).cell? ⟨w2.heap.size, 0, none⟩ = some (.int .i64 (k : Int)) := by rw [Lib.cell_of_heap hN]; rfl
  have n1 : (w2.alloc (.cells #[.int .i64 (k : Int), .int .i64 (l : Int)] 82)).cell? ⟨w2.heap.size, 1, none⟩ = some (.int .i64 (l : Int)) := by rw [Lib.cell_of_heap hN]; rfl
  have hP : Hid (PSl (w2.alloc (.cells #[.int .i64 (k : Int), .int .i64 (l : Int)] 82)) (some ⟨w2.heap.size, 0, none⟩) [((k : Int), (l : Int))]) := fun q hq => by
    obtain rfl : q = 0 := by simp at hq; omega
    exact ⟨w2.heap.size, 0, rfl, n0, n1⟩
  replace hB := hB.trans (hbA.mono hB.size)
  replace hbw := hbw.trans (hbA.mono hbw.size)
  clear hN n0 n1
  go_wp2_with fail
  replace c0 := cells_keepL hbA (Nat.le_refl _) _ _ c0
  replace c1 := cells_keepL hbA (Nat.le_refl _) _ _ c1
  replace c2 := cells_keepL hbA (Nat.le_refl _) _ _ c2
  replace c3 := cells_keepL hbA (Nat.le_refl _) _ _ c3
  replace c4 := cells_keepL hbA (Nat.le_refl _) _ _ c4
  replace c5 := cells_keepL hbA (Nat.le_refl _) _ _ c5
  replace c6 := cells_keepL hbA (Nat.le_refl _) _ _ c6
  replace c7 := cells_keepL hbA (Nat.le_refl _) _ _ c7
  generalize hw6 : World.alloc w2 _ = w6 at hB hbw c0 c1 c2 c3 c4 c5 c6 c7 hP hbA ⊢
  clear hw6 hbA
  have HJ2 := HJN.out _ hB (some ⟨w2.heap.size, 0, none⟩) [((k : Int), (l : Int))] hP.out rfl
  obtain ⟨R, hR⟩ : ∃ R, joinR A.pl B.pl [((k : Int), (l : Int))] = R := ⟨_, rfl⟩
  rw [hR] at HJ2
  have HNO : Hid (R.1 ≠ 0 → R.2.2 = []) := fun h => by rw [← hR] at h ⊢; exact joinR_no h
  have HYES : Hid (R.1 = 0 → (R.2.2.length = W.length ∧ (∀ i, i < W.length → R.2.2.getD i 0 = (shN V.length k l i : Int)) ∧ (rdE A.pl V = 0 → rdE B.pl (shW V W k l) = 0 → rdE R.2.1 (shJ V (shW V W k l) l) = 0 ∧ hldS R.2.1 (shJ V (shW V W k l) l) = (hldS A.pl V && hldS B.pl (shW V W k l))) ∧ (rdE A.pl V ≠ 0 ∨ rdE B.pl (shW V W k l) ≠ 0 → hldS R.2.1 (shJ V (shW V W k l) l) = false)) ∧ ∃ r, R.2.1 = jnS A.pl B.pl r) := fun h => by
    rw [← hR] at h ⊢
    refine ⟨shares_law h HT0.out HT1.out hkV hlW, ?_⟩
    obtain ⟨_, _, _, _, J, VV, _, _, _, e⟩ := joinR_ok h
    exact ⟨_, by rw [e]⟩
  obtain ⟨z, PS, IX⟩ := R
  simp only at HJ2 HNO HYES
  clear hR hP HJN
  refine HJ2.mono ?_; rintro e w7 ⟨s, S, n, io, c, rfl, hS, hok, hpl, hLI, hnl, b7⟩
  clear HJ2
  have hbs := (Below.refl _ w7).alloc (Nat.le_refl _) (.cells #[.slice s.ga S.G.length s.gc, .slice s.va S.V.length s.vc, .slice s.qa S.Q.length s.qc] 49)
  have b8 := b7.trans (hbs.mono b7.size)
  replace hB := hB.trans (b8.mono hB.size)
  replace hbw := hbw.trans (b8.mono hbw.size)
  have hZ := SXB.new w7 s S
  have s0 := hZ.c0
  have s1 := hZ.c1
  have s2 := hZ.c2
  have HSS := Lib.hid (hS.below hbs (Nat.le_refl _))
  have HLI := Lib.hid (hLI.keep (cells_keepL hbs (Nat.le_refl _)))
  have HOK := Lib.hid hok
  have HPL := Lib.hid hpl
  replace c0 := cells_keepL b8 (Nat.le_refl _) _ _ c0
  replace c1 := cells_keepL b8 (Nat.le_refl _) _ _ c1
  replace c2 := cells_keepL b8 (Nat.le_refl _) _ _ c2
  replace c3 := cells_keepL b8 (Nat.le_refl _) _ _ c3
  replace c4 := cells_keepL b8 (Nat.le_refl _) _ _ c4
  replace c5 := cells_keepL b8 (Nat.le_refl _) _ _ c5
  replace c6 := cells_keepL b8 (Nat.le_refl _) _ _ c6
  replace c7 := cells_keepL b8 (Nat.le_refl _) _ _ c7
  clear hS hok hpl hLI hZ b7 b8
  by_cases hz : z = 0
  rotate_left
  · have q5 : (z != 0) = true := by rw [bne_iff_ne]; exact hz
    have hIX := HNO.out hz
    subst hIX
    obtain rfl : n = 0 := hnl
    go_wp2_with fail
    refine (awakeL _).mono ?_; rintro e w9 ⟨rfl, b9⟩
    have hb9 := hbw.trans (b9.mono hbw.size)
    go_wp2_with fail
    go_ret
    exact ⟨rfl, hb9⟩
  subst hz
  obtain ⟨⟨hl1, hix, hy1, hy2⟩, r, hjn⟩ := HYES.out rfl
  have hnW : n = W.length := by rw [hnl, hl1]
  subst hnW
  have HIX := Lib.hid (And.intro hl1 hix)
  have HY1 := Lib.hid hy1
  have HY2 := Lib.hid hy2
  have HJR : Hid (S.pl = jnS A.pl B.pl r) := HPL.out.trans hjn
  clear hl1 hix hy1 hy2 hjn HNO HYES hnl
  have q6 : ((W.length : Int) != (W.length : Int)) = false := by simp
  obtain ⟨i1, hy, hy0, hyy1, hyy2⟩ := info_parts info_int9
  go_upto_region 9 with fail
  generalize hw8 : World.alloc w7 _ = w8 at hB hbw c0 c1 c2 c3 c4 c5 c6 c7 s0 s1 s2 HSS HLI hbs ⊢
  generalize w7.heap.size = q9 at s0 s1 s2 ⊢
  clear hw8 hbs q6
  have HIW8 := Lib.hid (HIW.out _ (hB.alloc hB.size (.cells #[] 36)))
  have hlw := HW.out.1
  have hlv := HV.out.1
  have d7 := cells_keepL ((Below.refl _ w8).alloc (Nat.le_refl _) (.cells #[] 36)) (Nat.le_refl _) _ _ c7
  go_upto_region 10 with (at_builtin; refine wpList_append_any rfl (.tmp 115) (.tmp 117) 59 rfl w8.heap.size 36 i1 (.agg #[.bool false, .string ⟨#[]⟩]) 2 24 Tryz.underlying59 hy hy0 hyy1 hyy2 rfl (by decide) (.slice (some ⟨w8.heap.size, 0, none⟩) 0 0) 0 (icl []) rfl (own_emptyT w8 _ _) wo W.length wc (icl W) rfl (icl_len W) (fun A e => by subst e; exact HIW8.out.cellsA) (fun e => HIW8.out.nilL e) (icl_one W) (by unfold maxLen; omega) (by omega) (by simp) ?_; intro v4 w9 ho4 hg4; have b9 : Below w8.heap.size w8 w9 := ((Below.refl _ w8).alloc (Nat.le_refl _) (.cells #[] 36)).grown hg4 (by simp) (fun q e => (own_ge (own_emptyT w8 36 2) q e).1); clear hg4)
  rw [Nat.zero_add, show icl [] = [] from rfl, List.nil_append] at ho4
  obtain ⟨g, wcap, rfl⟩ := own_someT ho4 (by omega)
  obtain ⟨hg8, cur, hcur⟩ := own_ge ho4 g rfl
  have hB9 := hB.trans (b9.mono hB.size)
  have d6 := cells_keepL b9 (Nat.le_refl _) _ _ c6
  obtain ⟨vb, vof, rfl, r0, r1⟩ := (HIV.out _ hB9) k hkV
  have HVK : Hid (V.getD k (false, ⟨#[]⟩) = V[k]) := by show _ = _; simp [List.getD_eq_getElem?_getD, hkV]
  have k0 := ho4.cells (g := g) rfl (l * 2) _ (icl_get W l hlW).1
  have k1 := ho4.cells (g := g) rfl (l * 2 + 1) _ (icl_get W l hlW).2
  rw [addr_add] at k0 k1
  have f0 := Lib.frozen_of_heap hcur (l * 2)
  have f1 := Lib.frozen_of_heap hcur (l * 2 + 1)
  generalize V[k] = x at r0 r1 HVK
  obtain ⟨xb, xs⟩ := x
  simp only at r0 r1
  have ho5 := own_setK (x := .string xs) (i := l * 2 + 1) (own_setK (x := .bool xb) (i := l * 2) ho4)
  rw [icl_set] at ho5
  have e5 : W.set l (xb, xs) = shW V W k l := by unfold shW; rw [HVK.out]
  rw [e5] at ho5
  have b10 := (b9.setCell (p := ⟨g, l * 2, none⟩) hg8 (.bool xb)).setCell (p := ⟨g, l * 2 + 1, none⟩) hg8 (.string xs)
  clear e5 HVK hcur hg8 ho4 hB9 b9 d7 HIW8
  go_upto_region 11 with fail
  generalize hw10 : World.setCell (World.setCell _ _ _) _ _ = w10 at ho5 b10 ⊢
  clear hw10 r0 r1 k0 k1 f0 f1 d6
  replace hB := hB.trans (b10.mono hB.size)
  replace hbw := hbw.trans (b10.mono hbw.size)
  replace c0 := cells_keepL b10 (Nat.le_refl _) _ _ c0
  replace c1 := cells_keepL b10 (Nat.le_refl _) _ _ c1
  replace c2 := cells_keepL b10 (Nat.le_refl _) _ _ c2
  replace c3 := cells_keepL b10 (Nat.le_refl _) _ _ c3
  replace c4 := cells_keepL b10 (Nat.le_refl _) _ _ c4
  replace c5 := cells_keepL b10 (Nat.le_refl _) _ _ c5
  replace c6 := cells_keepL b10 (Nat.le_refl _) _ _ c6
  replace c7 := cells_keepL b10 (Nat.le_refl _) _ _ c7
  replace s0 := cells_keepL b10 (Nat.le_refl _) _ _ s0
  replace s1 := cells_keepL b10 (Nat.le_refl _) _ _ s1
  replace s2 := cells_keepL b10 (Nat.le_refl _) _ _ s2
  replace HSS := Lib.hid (HSS.out.below b10 (Nat.le_refl _))
  replace HLI := Lib.hid (HLI.out.keep (cells_keepL b10 (Nat.le_refl _)))
  clear b10
  have hFW : FIP (shW V W k l) := fip_shW HV.out HW.out hkV
  have hWL : (shW V W k l).length = W.length := by unfold shW; rw [List.length_set]
  generalize shW V W k l = wl at ho5 HY1 HY2 hFW hWL
  have HFW := Lib.hid hFW
  have HWLn := Lib.hid hWL
  have HWL : Hid (∀ w', Below w10.heap.size w10 w' → IS w' (some ⟨g, 0, none⟩) wl) := fun w' hb' => by
    obtain ⟨ao, c2, e, h⟩ := own_IS (own_keepL hb' ho5)
    injection e with e _ _
    subst e
    exact h
  have HLK := Lib.hid (fun w' (hb' : Below w10.heap.size w10 w') => HLI.out.keep (cells_keepL hb' (Nat.le_refl _)))
  have HIV10 := Lib.hid (HIV.out _ (hB.alloc hB.size (.cells #[] 36)))
  have d6 := cells_keepL ((Below.refl _ w10).alloc (Nat.le_refl _) (.cells #[] 36)) (Nat.le_refl _) _ _ c6
  clear ho5 hFW hWL HLI
  go_upto_region 12 with (at_builtin; refine wpList_append_any rfl (.tmp 127) (.tmp 129) 59 rfl w10.heap.size 36 i1 (.agg #[.bool false, .string ⟨#[]⟩]) 2 24 Tryz.underlying59 hy hy0 hyy1 hyy2 rfl (by decide) (.slice (some ⟨w10.heap.size, 0, none⟩) 0 0) 0 (icl []) rfl (own_emptyT w10 _ _) (some ⟨vb, vof, none⟩) V.length vc (icl V) rfl (icl_len V) (fun A e => by injection e with e; subst e; exact HIV10.out.cellsA) (fun e => by cases e) (icl_one V) (by unfold maxLen; omega) (by omega) (by simp) ?_; intro v4 w11 ho6 hg4; have b11 : Below w10.heap.size w10 w11 := ((Below.refl _ w10).alloc (Nat.le_refl _) (.cells #[] 36)).grown hg4 (by simp) (fun q e => (own_ge (own_emptyT w10 36 2) q e).1); clear hg4)
  rw [Nat.zero_add, show icl [] = [] from rfl, List.nil_append] at ho6
  obtain ⟨jo, jc, rfl⟩ := own_slice ho6
  clear d6 HIV10
  go_wp2_with fail
  go_loopw [13, 14] (fun v13 v14 wr => ∃ (nn M : Nat) (jo : Option Addr) (jc : Nat), nn ≤ W.length ∧ v14 = .int .i64 (nn : Int) ∧ v13 = .slice jo M jc ∧ Hid (M = V.length + (nn - if l < nn then 1 else 0)) ∧ wr.ownsRow w10.heap.size 36 2 (.slice jo M jc) M (icl (jwS V wl l nn)) ∧ Below w10.heap.size w10 wr) (fun _ v14 _ => W.length - (intOf v14).toNat)
  case atStart => exact ⟨0, V.length, jo, jc, by omega, rfl, rfl, (by show _ = _; simp), by rw [jwS_zero]; exact ho6, b11⟩
  case round =>
    clear ho6 b11
    obtain ⟨nn, M, jo, jc, hnn, rfl, rfl, hM, ho, hBr⟩ := hrel
    by_cases hlt : nn < W.length
    · have hnI : nn < IX.length := by rw [HIX.out.1]; exact hlt
      obtain ⟨ib, iof, rfl, a0⟩ := (HLK.out _ hBr) nn hnI
      have hia : IX[nn] = (shN V.length k l nn : Int) := by
        have h1 := HIX.out.2 nn hlt
        rw [List.getD_eq_getElem?_getD, List.getElem?_eq_getElem hnI] at h1
        simpa using h1
      rw [hia] at a0
      have hM40 : M ≤ 40 := by have := hM.out; omega
      clear hia hnI
      by_cases hnl : nn = l
      · have e1 : shN V.length k l nn = k := by unfold shN; rw [if_pos hnl]
        rw [e1] at a0
        have q1 : ((nn : Int) == (l : Int)) = true := by rw [beq_iff_eq]; omega
        have q2 : ((nn : Int) != (l : Int)) = false := by rw [bne_eq_false_iff_eq]; omega
        have q3 : ((k : Int) != (k : Int)) = false := by simp
        have ho' : jwS V wl l (nn + 1) = jwS V wl l nn := by rw [hnl]; exact jwS_same V wl (by rw [HWLn.out]; exact hlW)
        have hM' : Hid (M = V.length + (nn + 1 - if l < nn + 1 then 1 else 0)) := by show _ = _; rw [hM.out, if_neg (by omega), if_pos (by omega)]; omega
        rw [← ho'] at ho
        clear hnl e1 ho'
        go_wp2_with fail
        exact ⟨⟨nn + 1, M, jo, jc, by omega, by go_num, rfl, hM', ho, hBr⟩, by simp [intOf]; omega⟩
      · have e1 : shN V.length k l nn = M := by unfold shN; rw [if_neg hnl, hM.out]
        rw [e1] at a0
        have q1 : ((nn : Int) == (l : Int)) = false := by rw [beq_eq_false_iff_ne]; omega
        have q2 : ((nn : Int) != (l : Int)) = true := by rw [bne_iff_ne]; omega
        have q3 : ((M : Int) != (M : Int)) = false := by simp
        have hnw : nn < wl.length := by rw [HWLn.out]; exact hlt
        obtain ⟨gb, gof, hge, y0, y1⟩ := (HWL.out _ hBr) nn hnw
        injection hge with hge
        injection hge with hge1 hge2 _
        subst hge1 hge2
        rw [Nat.zero_add] at y0 y1
        have hsu := jwS_succ V wl hnw hnl
        have hM' : Hid (M + 1 = V.length + (nn + 1 - if l < nn + 1 then 1 else 0)) := by
          show _ = _
          rw [hM.out]
          by_cases h : l < nn
          · rw [if_pos h, if_pos (by omega)]; omega
          · rw [if_neg h, if_neg (by omega)]; omega
        generalize wl[nn] = y at y0 y1 hsu
        obtain ⟨yb, ys⟩ := y
        simp only at y0 y1
        have HSU : Hid (icl (jwS V wl l nn) ++ [.bool yb, .string ys] = icl (jwS V wl l (nn + 1))) := by show _ = _; rw [hsu, icl_append]; rfl
        have bn := (Below.refl _ wr).alloc (Nat.le_refl _) (.cells #[.bool yb, .string ys] 36)
        have hN := heap_alloc_new wr (.cells #[.bool yb, .string ys] 36)
        have HM0 : Hid ((wr.alloc (.cells #[.bool yb, .string ys] 36)).cell? ⟨wr.heap.size, 0, none⟩ = some (.bool yb)) := by show _ = _; rw [Lib.cell_of_heap hN]; rfl
        have HM1 : Hid ((wr.alloc (.cells #[.bool yb, .string ys] 36)).cell? ⟨wr.heap.size, 1, none⟩ = some (.string ys)) := by show _ = _; rw [Lib.cell_of_heap hN]; rfl
        have HO2 := Lib.hid (own_keepL bn ho)
        have HB2 := Lib.hid (hBr.alloc hBr.size (.cells #[.bool yb, .string ys] 36))
        have hs2 := HB2.out.size
        clear hnl e1 hsu hnw hN bn ho hBr
        go_wp2_with (at_builtin; refine wpList_append_own _ rfl (.tmp 165) (.tmp 170) 59 rfl w10.heap.size 36 i1 (.agg #[.bool false, .string ⟨#[]⟩]) 2 24 Tryz.underlying59 hy hy0 hyy1 hyy2 rfl (by decide) (.slice jo M jc) M (icl (jwS V wl l nn)) rfl HO2.out ⟨wr.heap.size, 0, none⟩ 1 1 [.bool yb, .string ys] rfl rfl (two_cellV HM0.out HM1.out) (by simp [Value.oneCell']) (by unfold maxLen; omega) (by omega) hs2 ?_; intro v9 w12 hown hgrow _; rw [HSU.out] at hown; obtain ⟨jo', jc', rfl⟩ := own_slice hown; have hB12 := HB2.out.grown hgrow hs2 (fun q e => (own_ge HO2.out q e).1); clear hgrow)
        exact ⟨⟨nn + 1, M + 1, jo', jc', by omega, by go_num, rfl, hM', hown, hB12⟩, by simp [intOf]; omega⟩
    · obtain rfl : W.length = nn := by omega
      rw [jwS_all V wl l _ (by rw [HWLn.out]; omega)] at ho
      have hlJ : (shJ V wl l).length = M := by have := ho.1; rw [icl_len] at this; omega
      have hBw := hB.trans (hBr.mono hB.size)
      have hbz := hbw.trans (hBr.mono hbw.size)
      have HIW2 := Lib.hid ((HWL.out _ hBr))
      obtain ⟨jo2, jc2, e2, hIJ⟩ := own_IS ho
      injection e2 with e2 _ e3
      subst e2 e3
      have HIJ := Lib.hid hIJ
      have HLJ := Lib.hid hlJ
      have hM40 : M ≤ 40 := by have := hM.out; omega
      replace c0 := cells_keepL hBr (Nat.le_refl _) _ _ c0
      replace c1 := cells_keepL hBr (Nat.le_refl _) _ _ c1
      replace c2 := cells_keepL hBr (Nat.le_refl _) _ _ c2
      replace c3 := cells_keepL hBr (Nat.le_refl _) _ _ c3
      replace c4 := cells_keepL hBr (Nat.le_refl _) _ _ c4
      replace c5 := cells_keepL hBr (Nat.le_refl _) _ _ c5
      replace c6 := cells_keepL hBr (Nat.le_refl _) _ _ c6
      replace c7 := cells_keepL hBr (Nat.le_refl _) _ _ c7
      replace s0 := cells_keepL hBr (Nat.le_refl _) _ _ s0
      replace s1 := cells_keepL hBr (Nat.le_refl _) _ _ s1
      replace s2 := cells_keepL hBr (Nat.le_refl _) _ _ s2
      replace HSS := Lib.hid (HSS.out.below hBr (Nat.le_refl _))
      have HSM : Hid (SmS S (shJ V wl l)) := sms_join HA.out HB.out HV.out HFW.out HJR.out
      rw [← HPL.out] at HY1 HY2
      obtain ⟨d1, hd1⟩ : ∃ z, rdE A.pl V = z := ⟨_, rfl⟩
      obtain ⟨d2, hd2⟩ : ∃ z, rdE B.pl wl = z := ⟨_, rfl⟩
      obtain ⟨d3, hd3⟩ : ∃ z, rdE S.pl (shJ V wl l) = z := ⟨_, rfl⟩
      obtain ⟨f1, hf1⟩ : ∃ z, hldS A.pl V = z := ⟨_, rfl⟩
      obtain ⟨f2, hf2⟩ : ∃ z, hldS B.pl wl = z := ⟨_, rfl⟩
      obtain ⟨f3, hf3⟩ : ∃ z, hldS S.pl (shJ V wl l) = z := ⟨_, rfl⟩
      rw [hd1, hd2, hd3, hf1, hf2, hf3] at HY1
      rw [hd1, hd2, hf3] at HY2
      have H1 := Lib.hid (HHA.out _ hBw HA.out HV.out)
      have H2 := Lib.hid (fun w' (hb' : Below wr.heap.size wr w') => HHB.out _ (hBw.trans (hb'.mono hBw.size)) (some ⟨g, 0, none⟩) W.length wcap wl (HIW2.out.below hb' (Nat.le_refl _)) HWLn.out HB.out HFW.out)
      have H3 := Lib.hid (fun w' (hb' : Below wr.heap.size wr w') => holds_any s S jo M jc (shJ V wl l) w' (HSS.out.below hb' (Nat.le_refl _)) HOK.out (HIJ.out.below hb' (Nat.le_refl _)) HLJ.out (by unfold maxLen; omega) HSM.out)
      rw [hd1, hf1] at H1
      rw [hd2, hf2] at H2
      rw [hd3, hf3] at H3
      clear hd1 hd2 hd3 hf1 hf2 hf3 HHA HHB HIV HIW ho hIJ hlJ HLK HWL
      go_wp2_with fail
      refine H1.out.mono ?_; rintro e w12 ⟨rfl, b12⟩
      replace hbz := hbz.trans (b12.mono hbz.size)
      replace c0 := cells_keepL b12 (Nat.le_refl _) _ _ c0
      replace c1 := cells_keepL b12 (Nat.le_refl _) _ _ c1
      replace c2 := cells_keepL b12 (Nat.le_refl _) _ _ c2
      replace c3 := cells_keepL b12 (Nat.le_refl _) _ _ c3
      replace c4 := cells_keepL b12 (Nat.le_refl _) _ _ c4
      replace c5 := cells_keepL b12 (Nat.le_refl _) _ _ c5
      replace c6 := cells_keepL b12 (Nat.le_refl _) _ _ c6
      replace c7 := cells_keepL b12 (Nat.le_refl _) _ _ c7
      replace s0 := cells_keepL b12 (Nat.le_refl _) _ _ s0
      replace s1 := cells_keepL b12 (Nat.le_refl _) _ _ s1
      replace s2 := cells_keepL b12 (Nat.le_refl _) _ _ s2
      go_wp2_with fail
      refine (H2.out _ b12).mono ?_; rintro e w13 ⟨rfl, bx⟩
      replace hbz := hbz.trans (bx.mono hbz.size)
      have b13 := b12.trans (bx.mono b12.size)
      replace s0 := cells_keepL bx (Nat.le_refl _) _ _ s0
      replace s1 := cells_keepL bx (Nat.le_refl _) _ _ s1
      replace s2 := cells_keepL bx (Nat.le_refl _) _ _ s2
      clear H1 H2 bx b12 c0 c1 c2 c3 c4 c5 c6 c7
      go_wp2_with fail
      refine (H3.out _ b13).mono ?_; rintro e w14 ⟨rfl, b14⟩
      replace hbz := hbz.trans (b14.mono hbz.size)
      clear H3 b13 b14 s0 s1 s2
      by_cases hd1 : d1 = 0
      · subst hd1
        by_cases hd2 : d2 = 0
        · subst hd2
          obtain ⟨hd3, hf3⟩ := HY1.out rfl rfl
          subst hd3 hf3
          clear HY1 HY2
          cases f1 <;> cases f2
          all_goals
            go_wp2_with fail
            refine (awakeL _).mono ?_; rintro e w9 ⟨rfl, b9⟩
            have hb9 := hbz.trans (b9.mono hbz.size)
            go_wp2_with fail
            go_ret
            exact ⟨rfl, hb9⟩
        · have q7 : (d2 != 0) = true := by rw [bne_iff_ne]; exact hd2
          have hf3 := HY2.out (.inr hd2)
          subst hf3
          clear HY1 HY2 hd2
          go_wp2_with fail
          refine (awakeL _).mono ?_; rintro e w9 ⟨rfl, b9⟩
          have hb9 := hbz.trans (b9.mono hbz.size)
          go_wp2_with fail
          go_ret
          exact ⟨rfl, hb9⟩
      · have q7 : (d1 != 0) = true := by rw [bne_iff_ne]; exact hd1
        have hf3 := HY2.out (.inl hd1)
        subst hf3
        clear HY1 HY2 hd1
        go_wp2_with fail
        refine (awakeL _).mono ?_; rintro e w9 ⟨rfl, b9⟩
        have hb9 := hbz.trans (b9.mono hbz.size)
        go_wp2_with fail
        go_ret
        exact ⟨rfl, hb9⟩
theorem lshares_row (x : TwA) (i j : Int) (wi : (Lit.int .u8 i).wf = true) (wj : (Lit.int .u8 j).wf = true) (w : World) (hK : TwK w x) :
    Calls Tryz.prog 5 #[.agg x.cs, .int .u8 i, .int .u8 j] w fun e w' => e = .returned (.bool true) ∧ Below w.heap.size w w' := by
  have h1 : IntKind.u8.min = 0 := by decide
  have h2 : IntKind.u8.max = 255 := by decide
  simp [Lit.wf, h1, h2] at wi wj
  obtain ⟨m, rfl⟩ := Int.eq_ofNat_of_zero_le wi.1
  obtain ⟨n, rfl⟩ := Int.eq_ofNat_of_zero_le wj.1
  exact lshares_walk x m n w hK (by omega) (by omega)
end Go.Proofs.YtdhhbjmkdmbffaaGreatDoor
