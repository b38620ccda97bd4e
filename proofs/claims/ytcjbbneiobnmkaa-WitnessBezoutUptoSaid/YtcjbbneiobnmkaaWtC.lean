import Derived.Test.YtcjbbneiobnmkaaWtA
/- witness: Exponents. -/
namespace Go.Proofs.Ytcjbbneiobnmkaa
open Go.RowKit Num
set_option maxRecDepth 20000
set_option linter.unusedVariables false
/-- no empty string -/
def nzB (l : List ByteArray) : Bool := l.all fun x => !x.toList.isEmpty
/-- what Exponents answers -/
def gxE (u : ByteArray) (la ld : List ByteArray) : Int := if (u :: (la ++ ld)).all validB = true then (if nzB (u :: (la ++ ld)) = true then wxE u la ld else 11) else 3
def XG (u : ByteArray) (la ld : List ByteArray) (w : World) (e : Ending) (w' : World) : Prop :=
  e = .returned (.tuple #[.agg #[.bool (zb (zif (gxE u la ld) (wxX u la ld))), .string (zs (zif (gxE u la ld) (wxX u la ld)))], .agg #[.bool (zb (zif (gxE u la ld) (wxY u la ld))), .string (zs (zif (gxE u la ld) (wxY u la ld)))], .int .i64 (gxE u la ld)]) ∧ Below w.heap.size w w'
theorem pos_of {x : ByteArray} (hv : validB x = true) (h : (!x.toList.isEmpty) = true) : IsN x (nv x) ∧ 0 < nv x := by
  have hn := isN_of_valid hv
  refine ⟨hn, ?_⟩
  rcases Nat.eq_zero_or_pos (nv x) with h0 | h0
  · rw [h0] at hn
    have := empty_of hn
    subst this
    revert h; decide +kernel
  · exact h0
theorem posN_of {l : List ByteArray} (hv : l.all validB = true) (h : nzB l = true) : PosN l := fun x hx => pos_of (List.all_eq_true.1 hv x hx) (List.all_eq_true.1 h x hx)
theorem PosN.left {l k : List ByteArray} (h : PosN (l ++ k)) : PosN l := fun x hx => h x (List.mem_append_left _ hx)
theorem PosN.right {l k : List ByteArray} (h : PosN (l ++ k)) : PosN k := fun x hx => h x (List.mem_append_right _ hx)
theorem XG.ok {u : ByteArray} {la ld : List ByteArray} {w : World} {e : Ending} {w' : World} (h1 : (u :: (la ++ ld)).all validB = true) (h2 : nzB (u :: (la ++ ld)) = true) (h : XR u la ld w e w') : XG u la ld w e w' := by
  have hg : gxE u la ld = wxE u la ld := by unfold gxE; rw [if_pos h1, if_pos h2]
  unfold XG
  rw [hg]
  by_cases h0 : wxE u la ld = 0
  · rw [h0, zif_zero, zif_zero]
    unfold XR at h
    rw [h0] at h
    exact h
  · rw [zif_bad h0, zif_bad h0]
    unfold XR at h
    rw [show wxX u la ld = 0 from zif_bad h0 _, show wxY u la ld = 0 from zif_bad h0 _] at h
    exact h
theorem XG.bad {u : ByteArray} {la ld : List ByteArray} {w : World} {e : Ending} {w' : World} {c : Int} (hc : gxE u la ld = c) (h0 : c ≠ 0)
    (h : e = .returned (.tuple #[.agg #[.bool false, .string ⟨#[]⟩], .agg #[.bool false, .string ⟨#[]⟩], .int .i64 c]) ∧ Below w.heap.size w w') : XG u la ld w e w' := by
  refine ⟨?_, h.2⟩
  rw [h.1, hc, zif_bad h0, zif_bad h0, zs0]
  rfl
theorem rs3 {W : World} {b : Nat} {p0 p1 p2 : Option Addr} {k0 k1 k2 : Nat} {L0 L1 L2 : List ByteArray} {t : TypeId} {f : Nat × Nat} (h : W.heap[b]? = some (.cells #[.slice p0 L0.length k0, .slice p1 L1.length k1, .slice p2 L2.length k2] t f))
    (h0 : NS W p0 L0) (h1 : NS W p1 L1) (h2 : NS W p2 L2) : RS W (some ⟨b, 0, none⟩) [(p0, k0, L0), (p1, k1, L1), (p2, k2, L2)] := by
  intro k hk
  match k, hk with
  | 0, _ => exact ⟨b, 0, rfl, by rw [Lib.cell_of_heap h]; rfl, h0⟩
  | 1, _ => exact ⟨b, 0, rfl, by rw [Lib.cell_of_heap h]; rfl, h1⟩
  | 2, _ => exact ⟨b, 0, rfl, by rw [Lib.cell_of_heap h]; rfl, h2⟩
theorem flat3 (p0 p1 p2 : Option Addr) (k0 k1 k2 : Nat) (L0 L1 L2 : List ByteArray) : flat [(p0, k0, L0), (p1, k1, L1), (p2, k2, L2)] = L0 ++ (L1 ++ L2) := by simp [flat]
set_option maxHeartbeats 4000000 in
theorem wExponents_any (u : ByteArray) (a1 a2 : Option Addr) (c1 c2 n1 n2 : Nat) (la ld : List ByteArray) (w : World) (hl1 : NS w a1 la) (hl2 : NS w a2 ld) (hn1 : la.length = n1) (hn2 : ld.length = n2) (h1 : n1 ≤ 30) (h2 : n2 ≤ 30) :
    Calls Try.prog 7 #[.string u, .slice a1 n1 c1, .slice a2 n2 c2] w (XG u la ld w) := by
  have HF := Lib.hid (fun (W : World) (b p : Nat) (hR : RS W (some ⟨b, 0, none⟩) [(some ⟨p, 0, none⟩, 1, [u]), (a1, c1, la), (a2, c2, ld)]) => formed_any (some ⟨b, 0, none⟩) 3 3 _ W hR rfl (by omega) (by
    intro x hx
    simp at hx
    unfold maxLen
    rcases hx with rfl | rfl | rfl
    · simp
    · show la.length ≤ _; omega
    · show ld.length ≤ _; omega))
  have HZ := Lib.hid (fun (W : World) (b p : Nat) (hR : RS W (some ⟨b, 0, none⟩) [(some ⟨p, 0, none⟩, 1, [u]), (a1, c1, la), (a2, c2, ld)]) => nonzero_any (some ⟨b, 0, none⟩) 3 3 _ W hR rfl (by omega) (by
    intro x hx
    simp at hx
    unfold maxLen
    rcases hx with rfl | rfl | rfl
    · simp
    · show la.length ≤ _; omega
    · show ld.length ≤ _; omega))
  simp only [flat3] at HF HZ
  have hs := XS.start w
  have HL1 := Lib.hid (hl1.below hs.b (Nat.le_refl _))
  have HL2 := Lib.hid (hl2.below hs.b (Nat.le_refl _))
  obtain ⟨W0, hW0⟩ : ∃ W0, (w.alloc (.cells #[.bool false, .string ⟨#[]⟩] 34)).alloc (.cells #[.bool false, .string ⟨#[]⟩] 34) = W0 := ⟨_, rfl⟩
  rw [hW0] at hs HL1 HL2
  -- the lists, as they lie for the first call
  have hs1 := (hs.alloc (.cells #[.string u] 22)).alloc (.cells #[.slice (some ⟨W0.heap.size, 0, none⟩) 1 1, .slice a1 n1 c1, .slice a2 n2 c2] 23)
  have hbW := ((Below.refl _ W0).alloc (Nat.le_refl _) (.cells #[.string u] 22)).alloc (by simp) (.cells #[.slice (some ⟨W0.heap.size, 0, none⟩) 1 1, .slice a1 n1 c1, .slice a2 n2 c2] 23)
  have hN0 := (ns_one W0 u).below ((Below.refl _ _).alloc (Nat.le_refl _) (.cells #[.slice (some ⟨W0.heap.size, 0, none⟩) 1 1, .slice a1 n1 c1, .slice a2 n2 c2] 23)) (Nat.le_refl _)
  have hh := heap_alloc_new (W0.alloc (.cells #[.string u] 22)) (.cells #[.slice (some ⟨W0.heap.size, 0, none⟩) 1 1, .slice a1 n1 c1, .slice a2 n2 c2] 23)
  rw [World.size_alloc] at hh
  have HN1 := Lib.hid (HL1.out.below hbW (Nat.le_refl _))
  have HN2 := Lib.hid (HL2.out.below hbW (Nat.le_refl _))
  subst hn1 hn2
  have HR1 := Lib.hid (rs3 (L0 := [u]) hh hN0 HN1.out HN2.out)
  have HN0 := Lib.hid hN0
  clear hl1 hl2 HL1 HL2 hs hh hN0 hbW
  go_enter Try.func7, Try.ntmps7
  go_wp2_with fail
  generalize World.alloc (World.alloc W0 _) _ = W1 at hs1 HN0 HN1 HN2 HR1 ⊢
  by_cases hv : (u :: (la ++ ld)).all validB = true
  rotate_left
  · have hc : gxE u la ld = 3 := if_neg hv
    have hf : fmE ([u] ++ (la ++ ld)) = 3 := if_neg hv
    have HC := Lib.hid hc
    rw [hf] at HF
    clear hc hf hv
    refine (HF.out _ _ _ HR1.out).mono ?_; rintro e w2 ⟨rfl, b2⟩
    have hs2 := hs1.below b2
    have f0 := hs2.r6.f0
    have f1 := hs2.r6.f1
    have k0 := hs2.r6.c0
    have k1 := hs2.r6.c1
    have f2 := hs2.r7.f0
    have f3 := hs2.r7.f1
    have k2 := hs2.r7.c0
    have k3 := hs2.r7.c1
    obtain ⟨W', hW', o1, o2, hB⟩ := hs2.out (.bool false) (.string ⟨#[]⟩) (.bool false) (.string ⟨#[]⟩)
    go_wp2_with fail
    exact bodyPost_w3 rfl rfl rfl rfl o1 o2 rfl (XG.bad HC.out (by decide) ⟨rfl, hB⟩)
  have hf : fmE ([u] ++ (la ++ ld)) = 0 := if_pos hv
  rw [hf] at HF
  clear hf
  refine (HF.out _ _ _ HR1.out).mono ?_; rintro e w2 ⟨rfl, b2⟩
  have hs2 := hs1.below b2
  have hN0 := HN0.out.below b2 (Nat.le_refl _)
  have hN1 := HN1.out.below b2 (Nat.le_refl _)
  have hN2 := HN2.out.below b2 (Nat.le_refl _)
  have hA := (Below.refl _ w2).alloc (Nat.le_refl _) (.cells #[.slice (some ⟨W0.heap.size, 0, none⟩) 1 1, .slice a1 la.length c1, .slice a2 ld.length c2] 23)
  have hh := heap_alloc_new w2 (.cells #[.slice (some ⟨W0.heap.size, 0, none⟩) 1 1, .slice a1 la.length c1, .slice a2 ld.length c2] 23)
  have HR2 := Lib.hid (rs3 (L0 := [u]) hh (hN0.below hA (Nat.le_refl _)) (hN1.below hA (Nat.le_refl _)) (hN2.below hA (Nat.le_refl _)))
  have HM1 := Lib.hid (hN1.below hA (Nat.le_refl _))
  have HM2 := Lib.hid (hN2.below hA (Nat.le_refl _))
  have hs3 := hs2.alloc (.cells #[.slice (some ⟨W0.heap.size, 0, none⟩) 1 1, .slice a1 la.length c1, .slice a2 ld.length c2] 23)
  clear hs1 b2 hN0 hN1 hN2 hA hh hs2 HN0 HN1 HN2 HR1 HF
  have HV := Lib.hid hv
  clear hv
  go_wp2_with fail
  generalize World.alloc w2 _ = W3 at hs3 HR2 HM1 HM2 ⊢
  by_cases hz : nzB (u :: (la ++ ld)) = true
  rotate_left
  · have hc : gxE u la ld = 11 := by unfold gxE; rw [if_pos HV.out, if_neg hz]
    have hf : nzE ([u] ++ (la ++ ld)) = 11 := if_neg hz
    have HC := Lib.hid hc
    rw [hf] at HZ
    clear hc hf hz
    refine (HZ.out _ _ _ HR2.out).mono ?_; rintro e w4 ⟨rfl, b4⟩
    have hs2 := hs3.below b4
    have f0 := hs2.r6.f0
    have f1 := hs2.r6.f1
    have k0 := hs2.r6.c0
    have k1 := hs2.r6.c1
    have f2 := hs2.r7.f0
    have f3 := hs2.r7.f1
    have k2 := hs2.r7.c0
    have k3 := hs2.r7.c1
    obtain ⟨W', hW', o1, o2, hB⟩ := hs2.out (.bool false) (.string ⟨#[]⟩) (.bool false) (.string ⟨#[]⟩)
    go_wp2_with fail
    exact bodyPost_w3 rfl rfl rfl rfl o1 o2 rfl (XG.bad HC.out (by decide) ⟨rfl, hB⟩)
  have hf : nzE ([u] ++ (la ++ ld)) = 0 := if_pos hz
  rw [hf] at HZ
  have hP := posN_of HV.out hz
  have hu : IsN u (nv u) := (hP u (by simp)).1
  have hpl : PosN (la ++ ld) := fun x hx => hP x (List.mem_cons_of_mem _ hx)
  have HE := Lib.hid (fun w a b => exponents_any u a1 a2 c1 c2 _ _ la ld w hu a b rfl rfl (by omega) (by omega) hpl.left hpl.right)
  have HOK : Hid (∀ e w', XR u la ld w e w' → XG u la ld w e w') := fun e w' h => XG.ok HV.out hz h
  clear hf hP hu hpl hz
  refine (HZ.out _ _ _ HR2.out).mono ?_; rintro e w4 ⟨rfl, b4⟩
  have hs2 := hs3.below b4
  have HM1' := Lib.hid (HM1.out.below b4 (Nat.le_refl _))
  have HM2' := Lib.hid (HM2.out.below b4 (Nat.le_refl _))
  obtain ⟨X, hX⟩ : ∃ X, wxX u la ld = X := ⟨_, rfl⟩
  obtain ⟨Y, hY⟩ : ∃ X, wxY u la ld = X := ⟨_, rfl⟩
  obtain ⟨E, hE⟩ : ∃ X, wxE u la ld = X := ⟨_, rfl⟩
  unfold XR at HE HOK
  rw [hX, hY, hE] at HE HOK
  clear b4 hs3 HM1 HM2 HR2 HZ hX hY hE HV
  go_wp2_with fail
  refine (HE.out _ HM1'.out HM2'.out).mono ?_; rintro e w5 ⟨rfl, b5⟩
  have hs3 := hs2.below b5
  have f0 := hs3.r6.f0
  have f1 := hs3.r6.f1
  have k0 := hs3.r6.c0
  have k1 := hs3.r6.c1
  have f2 := hs3.r7.f0
  have f3 := hs3.r7.f1
  have k2 := hs3.r7.c0
  have k3 := hs3.r7.c1
  obtain ⟨W', hW', o1, o2, hB⟩ := hs3.out (.bool (zb X)) (.string (zs X)) (.bool (zb Y)) (.string (zs Y))
  go_wp2_with fail
  exact bodyPost_w3 rfl rfl rfl rfl o1 o2 rfl (HOK.out _ _ ⟨rfl, hB⟩)
end Go.Proofs.Ytcjbbneiobnmkaa

/- witness: ready. -/
namespace Go.Proofs.Ytcjbbneiobnmkaa
open Go.RowKit Num
set_option maxRecDepth 20000
set_option linter.unusedVariables false
/-- the header of a list -/
def hdr (x : Row) : Value := .slice x.1 x.2.2.length x.2.1
theorem hdr_one (R : List Row) : ∀ u ∈ R.map hdr, u.oneCell' = true := fun u hu => by
  obtain ⟨x, _, rfl⟩ := List.mem_map.1 hu
  rfl
theorem own_RS {W : World} {K n : Nat} {e : TypeId} {v : Value} {R : List Row} (h : W.ownsRow K e 1 v n (R.map hdr)) (hn : 0 < n) (hN : ∀ x ∈ R, NS W x.1 x.2.2) :
    ∃ g cap : Nat, v = .slice (some ⟨g, 0, none⟩) n cap ∧ R.length = n ∧ RS W (some ⟨g, 0, none⟩) R := by
  have hlen : R.length = n := by have := h.1; simpa using this
  have hh := h
  rcases h.2 with ⟨_, h0⟩ | ⟨g, cap, cur, rfl, hb, hg, hnc, hcm, hcs, htake⟩
  · omega
  · refine ⟨g, cap, rfl, hlen, fun k hk => ⟨g, 0, rfl, ?_, hN _ (List.getElem_mem hk)⟩⟩
    have := hh.cells (g := g) rfl k (hdr R[k]) (by simp [hk])
    rw [addr_add] at this
    rw [Nat.zero_add]; exact this
theorem RS.news {W : World} {b : Nat} {R : List Row} (h : RS W (some ⟨b, 0, none⟩) R) : ∀ j u, (R.map hdr)[j]? = some u → W.cell? ((⟨b, 0, none⟩ : Addr).add j) = some u := by
  intro j u hu
  rw [addr_add]
  rw [List.getElem?_map] at hu
  cases hj : R[j]? with
  | none => rw [hj] at hu; cases hu
  | some x =>
    rw [hj] at hu
    obtain ⟨hlt, rfl⟩ := List.getElem?_eq_some_iff.1 hj
    cases hu
    obtain ⟨b', off, h1, h2, _⟩ := h j hlt
    cases h1
    rw [Nat.zero_add] at h2
    exact h2
/-- a variable of type IssuerKey -/
def KB (W : World) (b : Nat) (nm M O Z S : ByteArray) (r : Value) (U H : ByteArray) : Prop :=
  W.heap[b]? = some (.cells #[.string nm, .string M, .string O, .string Z, .string S, r, .string U, .string H] 30 (0, 0))
section
variable {W W' : World} {b : Nat} {nm M O Z S U H : ByteArray} {r : Value}
theorem KB.lt (h : KB W b nm M O Z S r U H) : b < W.heap.size := (Array.getElem?_eq_some_iff.1 h).1
theorem KB.c0 (h : KB W b nm M O Z S r U H) : W.cell? ⟨b, 0, none⟩ = some (.string nm) := by rw [Lib.cell_of_heap h]; rfl
theorem KB.c1 (h : KB W b nm M O Z S r U H) : W.cell? ⟨b, 1, none⟩ = some (.string M) := by rw [Lib.cell_of_heap h]; rfl
theorem KB.c2 (h : KB W b nm M O Z S r U H) : W.cell? ⟨b, 2, none⟩ = some (.string O) := by rw [Lib.cell_of_heap h]; rfl
theorem KB.c3 (h : KB W b nm M O Z S r U H) : W.cell? ⟨b, 3, none⟩ = some (.string Z) := by rw [Lib.cell_of_heap h]; rfl
theorem KB.c4 (h : KB W b nm M O Z S r U H) : W.cell? ⟨b, 4, none⟩ = some (.string S) := by rw [Lib.cell_of_heap h]; rfl
theorem KB.c5 (h : KB W b nm M O Z S r U H) : W.cell? ⟨b, 5, none⟩ = some r := by rw [Lib.cell_of_heap h]; rfl
theorem KB.c6 (h : KB W b nm M O Z S r U H) : W.cell? ⟨b, 6, none⟩ = some (.string U) := by rw [Lib.cell_of_heap h]; rfl
theorem KB.c7 (h : KB W b nm M O Z S r U H) : W.cell? ⟨b, 7, none⟩ = some (.string H) := by rw [Lib.cell_of_heap h]; rfl
theorem KB.new (W : World) (nm M O Z S : ByteArray) (r : Value) (U H : ByteArray) : KB (W.alloc (.cells #[.string nm, .string M, .string O, .string Z, .string S, r, .string U, .string H] 30)) W.heap.size nm M O Z S r U H := heap_alloc_new W _
theorem KB.below {K : Nat} (h : KB W b nm M O Z S r U H) (hb : Below K W W') (hB : b < K) : KB W' b nm M O Z S r U H := (hb.block b hB).trans h
theorem KB.alloc (h : KB W b nm M O Z S r U H) (o : Obj) : KB (W.alloc o) b nm M O Z S r U H := (Below.heap_alloc W o b h.lt).trans h
theorem KB.drew (h : KB W b nm M O Z S r U H) : KB W.drew b nm M O Z S r U H := h
end
/-- what ready answers -/
def rdE (M O : ByteArray) (le lh : List ByteArray) : Int :=
  if (M :: O :: (le ++ lh)).all validB = true then (if gE M O = 0 then (if le.all (hasB M O) = true then (if nzB lh = true then 0 else 11) else 13) else gE M O) else 3
theorem rdE_form {M O : ByteArray} {le lh : List ByteArray} (h : ¬ (M :: O :: (le ++ lh)).all validB = true) : rdE M O le lh = 3 := if_neg h
theorem rdE_group {M O : ByteArray} {le lh : List ByteArray} (h : (M :: O :: (le ++ lh)).all validB = true) (h2 : gE M O ≠ 0) : rdE M O le lh = gE M O := by unfold rdE; rw [if_pos h, if_neg h2]
theorem rdE_has {M O : ByteArray} {le lh : List ByteArray} (h : (M :: O :: (le ++ lh)).all validB = true) (h2 : gE M O = 0) (h3 : ¬ le.all (hasB M O) = true) : rdE M O le lh = 13 := by unfold rdE; rw [if_pos h, if_pos h2, if_neg h3]
theorem rdE_last {M O : ByteArray} {le lh : List ByteArray} (h : (M :: O :: (le ++ lh)).all validB = true) (h2 : gE M O = 0) (h3 : le.all (hasB M O) = true) : rdE M O le lh = nzE lh := by unfold rdE; rw [if_pos h, if_pos h2, if_pos h3]; rfl
theorem flat_cons (p : Option Addr) (k : Nat) (L : List ByteArray) (R : List Row) : flat ((p, k, L) :: R) = L ++ flat R := by simp [flat]
theorem info_rowl : (Try.prog.info? 23).map (fun i => (i.zero, i.size, i.bytes)) = some (some (.slice none 0 0), 1, 24) := by kernel_rfl
theorem own_hdrs (w : World) (x y : Row) : (w.alloc (.cells #[hdr x, hdr y] 23)).ownsRow w.heap.size 23 1 (.slice (some ⟨w.heap.size, 0, none⟩) 2 2) 2 ([x, y].map hdr) :=
  ⟨rfl, .inr ⟨w.heap.size, 2, #[hdr x, hdr y], rfl, Nat.le_refl _, heap_alloc_new w _, by omega, by unfold maxLen; omega, rfl, rfl⟩⟩
set_option maxHeartbeats 8000000 in
theorem ready_any (nm M O Z S : ByteArray) (rv : Value) (U H : ByteArray) (ae : Option Addr) (ce ne : Nat) (le : List ByteArray) (b r c : Nat) (R : List Row) (w : World)
    (hle : NS w ae le) (hne : le.length = ne) (h1 : ne ≤ 10) (hR : RS w (some ⟨b, 0, none⟩) R) (hr : R.length = r) (h2 : r ≤ 10) (h3 : ∀ x ∈ R, x.2.2.length ≤ maxLen) :
    Calls Try.prog 36 #[.agg #[.string nm, .string M, .string O, .string Z, .string S, rv, .string U, .string H], .slice ae ne ce, .slice (some ⟨b, 0, none⟩) r c] w fun e w' => e = .returned (.int .i64 (rdE M O le (flat R))) ∧ Below w.heap.size w w' := by
  obtain ⟨i1, hi, hz0, hz1, hz2'⟩ := info_parts info_rowl
  subst hne hr
  have hK0 := (KB.new w nm M O Z S rv U H).alloc (.cells #[.string M, .string O] 22)
  have hN0 := ns_two (w.alloc (.cells #[.string nm, .string M, .string O, .string Z, .string S, rv, .string U, .string H] 30)) M O
  rw [World.size_alloc] at hN0
  have hb0 := ((Below.refl _ w).alloc (Nat.le_refl _) (.cells #[.string nm, .string M, .string O, .string Z, .string S, rv, .string U, .string H] 30)).alloc (by simp) (.cells #[.string M, .string O] 22)
  obtain ⟨W2, hW2⟩ : ∃ W2, (w.alloc (.cells #[.string nm, .string M, .string O, .string Z, .string S, rv, .string U, .string H] 30)).alloc (.cells #[.string M, .string O] 22) = W2 := ⟨_, rfl⟩
  rw [hW2] at hK0 hN0 hb0
  obtain ⟨x, hx⟩ : ∃ x : Row, x = (some ⟨w.heap.size + 1, 0, none⟩, 2, [M, O]) := ⟨_, rfl⟩
  obtain ⟨y, hy⟩ : ∃ y : Row, y = (ae, ce, le) := ⟨_, rfl⟩
  have hxh : hdr x = .slice (some ⟨w.heap.size + 1, 0, none⟩) 2 2 := by rw [hx]; rfl
  have hyh : hdr y = .slice ae le.length ce := by rw [hy]; rfl
  have hown := own_hdrs W2 x y
  rw [hxh, hyh] at hown
  have hA := (Below.refl _ W2).alloc (Nat.le_refl _) (.cells #[.slice (some ⟨w.heap.size + 1, 0, none⟩) 2 2, .slice ae le.length ce] 23)
  have hle2 := hle.below hb0 (Nat.le_refl _)
  have hR2 := hR.below hb0 (Nat.le_refl _)
  obtain ⟨W3, hW3⟩ : ∃ W3, W2.alloc (.cells #[.slice (some ⟨w.heap.size + 1, 0, none⟩) 2 2, .slice ae le.length ce] 23) = W3 := ⟨_, rfl⟩
  rw [hW3] at hown hA
  have hK3 := hK0.below hA hK0.lt
  have hN3 := hN0.below hA (Nat.le_refl _)
  have hle3 := hle2.below hA (Nat.le_refl _)
  have hR3 := hR2.below hA (Nat.le_refl _)
  have hb3 := hb0.trans (hA.mono hb0.size)
  have HOWN := Lib.hid hown
  have HR3 := Lib.hid hR3
  have HNEWS := Lib.hid hR3.news
  have HLE3 := Lib.hid hle3
  have HN3 := Lib.hid hN3
  have HBIG := Lib.hid h3
  have HA := Lib.hid hA
  have HN0 := Lib.hid hN0
  have HLE2 := Lib.hid hle2
  have HR2 := Lib.hid hR2
  have HX := Lib.hid (And.intro hx hy)
  have hz2 : W2.heap.size ≤ W3.heap.size := hA.size
  have c1 := hK0.c1
  have c2 := hK0.c2
  clear hle hR h3 hle2 hR2 hx hy hxh hyh hown hA hle3 hR3 hN3 hN0
  go_enter Try.func36, Try.ntmps36
  go_wp2_with (at_builtin; refine wpList_append_own _ rfl (.tmp 21) (.tmp 22) 58 rfl W2.heap.size 23 i1 (.slice none 0 0) 1 24 Try.underlying58 hi hz0 hz1 hz2' rfl (by decide) (.slice (some ⟨W2.heap.size, 0, none⟩) 2 2) 2 ([x, y].map hdr) rfl HOWN.out ⟨b, 0, none⟩ R.length c (R.map hdr) rfl ?o0 HNEWS.out ?o1 ?o2 ?o3 hz2 ?_; (case o0 => simp); (case o1 => exact hdr_one R); (case o2 => unfold maxLen; omega); (case o3 => omega); intro v' W4 hown hgrow _; clear HOWN)
  have hb4' : Below W2.heap.size W3 W4 := (Below.refl _ W3).grown hgrow hz2 (fun q e => by cases e; exact Nat.le_refl _)
  have hA4 := HA.out.trans hb4'
  have hK4 := hK0.below hA4 hK0.lt
  have hb4 := hb0.trans (hA4.mono hb0.size)
  have hN4 := HN0.out.below hA4 (Nat.le_refl _)
  have HL4 := Lib.hid (HLE2.out.below hA4 (Nat.le_refl _))
  have hR4 := HR2.out.below hA4 (Nat.le_refl _)
  have HR4 := Lib.hid hR4
  rw [← List.map_append] at hown
  obtain ⟨g, cap, rfl, hlen, hRR⟩ := own_RS hown (by omega) (by
    intro z hz
    rcases List.mem_append.1 hz with hz | hz
    · simp only [List.mem_cons, List.not_mem_nil, or_false] at hz
      rcases hz with rfl | rfl
      · rw [HX.out.1]; exact hN4
      · rw [HX.out.2]; exact HL4.out
    · obtain ⟨k, hk, rfl⟩ := List.mem_iff_getElem.1 hz
      exact hR4.row hk)
  have hflat : flat ([x, y] ++ R) = M :: O :: (le ++ flat R) := by rw [HX.out.1, HX.out.2]; simp [flat]
  have HF := Lib.hid (formed_any (some ⟨g, 0, none⟩) (2 + R.length) cap ([x, y] ++ R) W4 hRR hlen (by omega) (by
    intro z hz
    rcases List.mem_append.1 hz with hz | hz
    · simp only [List.mem_cons, List.not_mem_nil, or_false] at hz
      unfold maxLen
      rcases hz with rfl | rfl
      · rw [HX.out.1]; simp
      · rw [HX.out.2]; show le.length ≤ _; omega
    · exact HBIG.out _ hz))
  rw [hflat] at HF
  clear hW2 hW3 hK3 hb3 HR3 HNEWS HLE3 HN3 c1 c2 hz2 hgrow hb4' hA4 hN4 hR4 hown hRR hflat HA HN0 HLE2 HR2 hK0 hb0 HX hlen hi hz0 hz1 hz2'
  by_cases hv : (M :: O :: (le ++ flat R)).all validB = true
  rotate_left
  · have HR := Lib.hid (rdE_form (M := M) (O := O) (le := le) (lh := flat R) hv)
    rw [show fmE (M :: O :: (le ++ flat R)) = 3 from if_neg hv] at HF
    clear hv
    refine HF.out.mono ?_; rintro e w5 ⟨rfl, b5⟩
    go_wp2_with fail
    go_ret
    exact ⟨ret_int HR.out.symm, hb4.trans (b5.mono hb4.size)⟩
  have HV := Lib.hid hv
  rw [show fmE (M :: O :: (le ++ flat R)) = 0 from if_pos hv] at HF
  clear hv
  refine HF.out.mono ?_; rintro e w5 ⟨rfl, b5⟩
  have hK5 := hK4.below b5 hK4.lt
  have hb5 := hb4.trans (b5.mono hb4.size)
  have HL5 := Lib.hid (HL4.out.below b5 (Nat.le_refl _))
  have HR5 := Lib.hid (HR4.out.below b5 (Nat.le_refl _))
  clear hK4 hb4 HL4 HR4 b5 HF
  have c1 := hK5.c1
  have c2 := hK5.c2
  rcases gE_cases M O with hg | hg | hg
  rotate_left
  iterate 2
    · have HR := Lib.hid ((rdE_group HV.out (by rw [hg]; decide)).trans hg)
      have HG := Lib.hid hg
      clear hg
      go_wp2_with fail
      refine (gCheck_any M O _).mono ?_; rw [HG.out]; rintro e w6 ⟨rfl, b6⟩
      go_wp2_with fail
      go_ret
      exact ⟨ret_int HR.out.symm, hb5.trans (b6.mono hb5.size)⟩
  have HG := Lib.hid hg
  clear hg
  go_wp2_with fail
  refine (gCheck_any M O _).mono ?_; rw [HG.out]; rintro e w6 ⟨rfl, b6⟩
  have hK6 := hK5.below b6 hK5.lt
  have hb6 := hb5.trans (b6.mono hb5.size)
  have HL6 := Lib.hid (HL5.out.below b6 (Nat.le_refl _))
  have HR6 := Lib.hid (HR5.out.below b6 (Nat.le_refl _))
  clear hK5 hb5 HL5 HR5 b6 c1 c2
  go_wp2_with fail
  obtain ⟨wo, rfl⟩ : ∃ wo : World, wo = w6 := ⟨_, rfl⟩
  go_loopw [36] (fun i wr => ∃ k : Nat, k ≤ le.length ∧ i = .int .i64 k ∧ Hid (∀ j (hj : j < le.length), j < k → hasB M O le[j] = true) ∧ Below wo.heap.size wo wr) (fun i _ => le.length - (intOf i).toNat)
  case atStart => exact ⟨0, by omega, rfl, fun j _ h => by omega, Below.refl _ _⟩
  case round =>
    obtain ⟨k, hk, rfl, hv, hbr⟩ := hrel
    have hK7 := hK6.below hbr hK6.lt
    by_cases hlt : k < le.length
    · obtain ⟨b', off, rfl, hc⟩ := HL6.out k hlt
      obtain ⟨X, hX⟩ : ∃ X, le[k] = X := ⟨_, rfl⟩
      rw [hX] at hc
      have hc := cellB_below hc hbr (Nat.le_refl _)
      have c1 := hK7.c1
      have c2 := hK7.c2
      cases hval : hasB M O X
      · have HR := Lib.hid (rdE_has (lh := flat R) HV.out HG.out (not_all hlt (by rw [hX]; exact hval)))
        have HH := Lib.hid hval
        clear hval hX hv
        go_wp2_with fail
        refine (gHas_any M O X _).mono ?_; rw [HH.out]; rintro e w7 ⟨rfl, b7⟩
        go_wp2_with fail
        go_ret
        exact ⟨ret_int HR.out.symm, hb6.trans ((hbr.trans (b7.mono hbr.size)).mono hb6.size)⟩
      · have HST : Hid (∀ j (hj : j < le.length), j < k + 1 → hasB M O le[j] = true) := fun j hj hjk => by
          by_cases e : j = k
          · subst e; rw [hX]; exact hval
          · exact hv.out j hj (by omega)
        have HH := Lib.hid hval
        clear hval hX hv
        go_wp2_with fail
        refine (gHas_any M O X _).mono ?_; rw [HH.out]; rintro e w7 ⟨rfl, b7⟩
        have hb7 := hbr.trans (b7.mono hbr.size)
        go_wp2_with fail
        go_roundw
        case rel => exact ⟨k + 1, by omega, by go_num, HST, hb7⟩
        case measure => simp [intOf]; omega
    · obtain rfl : k = le.length := by omega
      have HR := Lib.hid (rdE_last (lh := flat R) HV.out HG.out (all_of (l := le) (p := hasB M O) fun j hj => hv.out j hj hj))
      have HZ := Lib.hid (nonzero_any (some ⟨b, 0, none⟩) R.length c R wr (HR6.out.below hbr (Nat.le_refl _)) rfl (by omega) HBIG.out)
      clear hv hK7
      go_wp2_with fail
      refine HZ.out.mono ?_; rintro e w7 ⟨rfl, b7⟩
      go_wp2_with fail
      go_ret
      exact ⟨ret_int HR.out.symm, hb6.trans ((hbr.trans (b7.mono hbr.size)).mono hb6.size)⟩
end Go.Proofs.Ytcjbbneiobnmkaa

/- witness: Added. -/
namespace Go.Proofs.Ytcjbbneiobnmkaa
open Go.RowKit Go.Shelf Num
set_option maxRecDepth 20000
set_option linter.unusedVariables false
attribute [local go_sem] Oper.semAt_some
/-- a canonical number, or nothing -/
def cl (s : ByteArray) : ByteArray := if validB s = true then s else ⟨#[]⟩
/-- one step of Added -/
def stA (M O x u : ByteArray) : ByteArray := gpS M O [x] [(false, cl u)]
/-- all steps -/
def adS (M O x : ByteArray) (l : List ByteArray) : ByteArray := l.foldl (stA M O) x
theorem adS_snoc (M O x : ByteArray) (l : List ByteArray) (u : ByteArray) : adS M O x (l ++ [u]) = stA M O (adS M O x l) u := by simp [adS]
theorem from_s (s : ByteArray) (w : World) :
    Calls Try.prog 35 #[.string s] w fun e w' => e = .returned (.agg #[.bool false, .string (cl s)]) ∧ Below w.heap.size w w' := by
  cases hv : validB s
  · have HV := Lib.hid hv
    have e1 : cl s = ⟨#[]⟩ := if_neg (by rw [hv]; decide)
    rw [e1]
    clear hv e1
    have r1 := RBox.new w
    have b1 := (Below.refl _ w).alloc (Nat.le_refl _) (.cells #[.bool false, .string ⟨#[]⟩] 34)
    go_enter Try.func35, Try.ntmps35
    go_wp2_with fail
    generalize w.alloc _ = w1 at r1 b1 ⊢
    refine (Valid_any _ _).mono ?_; rw [HV.out]; rintro e w2 ⟨rfl, rfl⟩
    have f0 := r1.f0
    have f1 := r1.f1
    have c0 := r1.c0
    have c1 := r1.c1
    go_wp2_with fail
    refine bodyPost_int rfl rfl (put2 r1) rfl ⟨rfl, ?_⟩
    exact (b1.setCell (p := ⟨w.heap.size, 0, none⟩) (Nat.le_refl _) _).setCell (p := ⟨w.heap.size, 1, none⟩) (Nat.le_refl _) _
  · have e1 : cl s = s := if_pos hv
    rw [e1]
    have hs := isN_of_valid hv
    have h1 := from_z (nv s) w hs.le
    rw [← hs.eq] at h1
    have hz : zb ((nv s : Nat) : Int) = false := decide_eq_false (by omega)
    have hzs : zs ((nv s : Nat) : Int) = s := by show enc (nv s) = s; exact hs.eq.symm
    rw [hz, hzs] at h1
    exact h1
theorem rs1 {W : World} {b : Nat} {p0 : Option Addr} {k0 : Nat} {L0 : List ByteArray} {t : TypeId} {f : Nat × Nat} (h : W.heap[b]? = some (.cells #[.slice p0 L0.length k0] t f))
    (h0 : NS W p0 L0) : RS W (some ⟨b, 0, none⟩) [(p0, k0, L0)] := by
  intro k hk
  match k, hk with
  | 0, _ => exact ⟨b, 0, rfl, by rw [Lib.cell_of_heap h]; rfl, h0⟩
theorem flat1 (p0 : Option Addr) (k0 : Nat) (L0 : List ByteArray) : flat [(p0, k0, L0)] = L0 := by simp [flat]
/-- a list lies in a block below -/
theorem NS.blk {w : World} {a : Option Addr} {L : List ByteArray} (h : NS w a L) : ∀ b off, a = some ⟨b, off, none⟩ → 0 < L.length → b < w.heap.size := fun b off e h0 => by
  obtain ⟨b', o', e', hc⟩ := h 0 h0
  rw [e] at e'
  cases e'
  exact cellB_lt hc
theorem RS.set1 {W : World} {rb pb : Nat} {a1 : Option Addr} {c1 : Nat} {la : List ByteArray} (h : RS W (some ⟨rb, 0, none⟩) [(a1, c1, la)]) (h1 : rb ≠ pb) (h2 : ∀ b off, a1 = some ⟨b, off, none⟩ → 0 < la.length → b ≠ pb) (v : Value) :
    RS (W.setCell ⟨pb, 0, none⟩ v) (some ⟨rb, 0, none⟩) [(a1, c1, la)] := by
  intro k hk
  match k, hk with
  | 0, hk =>
    obtain ⟨b, off, e, hc, hN⟩ := h 0 hk
    cases e
    refine ⟨rb, 0, rfl, cell_set_ne hc h1, fun j hj => ?_⟩
    obtain ⟨b2, o2, e2, hs⟩ := hN j hj
    exact ⟨b2, o2, e2, cell_set_ne hs (h2 b2 o2 e2 (Nat.lt_of_le_of_lt (Nat.zero_le _) hj))⟩
theorem KB.own {A B : World} {b : Nat} {nm M O Z S U H : ByteArray} {r : Value} {row : Option Nat} (h : KB A b nm M O Z S r U H) (hg : A.grownBy B row) (hr : ∀ r, row = some r → ∃ o : Obj, A.heap[r]? = some o ∧ o.isCells = false) : KB B b nm M O Z S r U H :=
  (grownBy_keeps_cells hg hr h rfl).trans h
theorem KB.other {W : World} {b : Nat} {nm M O Z S U H : ByteArray} {r : Value} (h : KB W b nm M O Z S r U H) {p : Addr} (hp : p.block ≠ b) (v : Value) : KB (W.setCell p v) b nm M O Z S r U H := by
  unfold KB; rw [Below.heap_setCell _ _ _ _ (fun e => hp e.symm)]; exact h
end Go.Proofs.Ytcjbbneiobnmkaa

/- witness: Update, Removed. -/
namespace Go.Proofs.Ytcjbbneiobnmkaa
open Go.RowKit Num
set_option maxRecDepth 20000
set_option linter.unusedVariables false
/-- what Update answers -/
def upE (M O x acc u : ByteArray) (la ld : List ByteArray) : Int := if rdE M O [x, acc] (u :: (la ++ ld)) = 0 then wxE u la ld else rdE M O [x, acc] (u :: (la ++ ld))
def upP (M O x acc : ByteArray) (X Y : Int) : ByteArray := gpS M O [x, acc] [(zb X, zs X), (zb Y, zs Y)]
def upS (M O x acc u : ByteArray) (la ld : List ByteArray) : ByteArray := if upE M O x acc u la ld = 0 then upP M O x acc (wxX u la ld) (wxY u la ld) else ⟨#[]⟩
theorem ivB_z {z : Int} (h : ZOk z) : ivB (zb z, zs z) = true := by unfold ivB; rw [h.isN.valid, zb_not]; rfl
theorem rdE_ok {M O : ByteArray} {le lh : List ByteArray} (h : rdE M O le lh = 0) : (M :: O :: (le ++ lh)).all validB = true ∧ gE M O = 0 ∧ le.all (hasB M O) = true ∧ nzB lh = true := by
  unfold rdE at h
  split at h
  · rename_i h1
    split at h
    · rename_i h2
      split at h
      · rename_i h3
        split at h
        · rename_i h4; exact ⟨h1, h2, h3, h4⟩
        · cases h
      · cases h
    · rename_i h2; exact absurd h h2
  · cases h
theorem valid_mid {M O : ByteArray} {le lh : List ByteArray} (h : (M :: O :: (le ++ lh)).all validB = true) : lh.all validB = true := by
  simp only [List.all_cons, List.all_append, Bool.and_eq_true] at h
  exact h.2.2.2
theorem gp_two {M O x y : ByteArray} {X Y : Int} (hg : gE M O = 0) (hx : hasB M O x = true) (hy : hasB M O y = true) (hX : ZOk X) (hY : ZOk Y) : gpE M O [x, y] [(zb X, zs X), (zb Y, zs Y)] = 0 := by
  obtain ⟨_, x2, x3⟩ := hasB_ok hx
  obtain ⟨_, y2, y3⟩ := hasB_ok hy
  unfold gpE
  rw [decide_eq_true (show [x, y].length = [(zb X, zs X), (zb Y, zs Y)].length from rfl), ck_last ⟨by simp [x2, y2], by simp [ivB_z hX, ivB_z hY]⟩ hg]
  simp [x3, y3]
theorem wx_zok {u : ByteArray} {la ld : List ByteArray} (h0 : wxE u la ld = 0) (hd : PosN ld) : ZOk (wxX u la ld) ∧ ZOk (wxY u la ld) := by
  obtain ⟨h1, h2, h3, h4, h5⟩ := wxE_inv h0
  have hY : (wtY (nv u) (pdL (ld.map nv)) : Int) < (pdL (ld.map nv) : Int) := by have := (wt_ok hd.pd h4).2; omega
  refine ⟨by rw [wxX, h0, zif_zero]; exact h5, ?_⟩
  rw [wxY, h0, zif_zero]
  exact Nat.le_trans (blen_mono (Nat.le_of_lt (wt_ok hd.pd h4).2)) h3
set_option maxHeartbeats 8000000 in
theorem update_any (nm M O Z S : ByteArray) (rv : Value) (U H : ByteArray) (x u : ByteArray) (a1 a2 : Option Addr) (c1 c2 n1 n2 : Nat) (la ld : List ByteArray) (acc : ByteArray) (w : World)
    (hl1 : NS w a1 la) (hl2 : NS w a2 ld) (hn1 : la.length = n1) (hn2 : ld.length = n2) (h1 : n1 ≤ 30) (h2 : n2 ≤ 30) :
    Calls Try.prog 27 #[.agg #[.string nm, .string M, .string O, .string Z, .string S, rv, .string U, .string H], .string x, .string u, .slice a1 n1 c1, .slice a2 n2 c2, .string acc] w fun e w' => e = .returned (.tuple #[.string (upS M O x acc u la ld), .int .i64 (upE M O x acc u la ld)]) ∧ Below w.heap.size w w' := by
  subst hn1 hn2
  have hK0 := KB.new w nm M O Z S rv U H
  have hb0 := (Below.refl _ w).alloc (Nat.le_refl _) (.cells #[.string nm, .string M, .string O, .string Z, .string S, rv, .string U, .string H] 30)
  obtain ⟨W0, hW0⟩ : ∃ W2, w.alloc (.cells #[.string nm, .string M, .string O, .string Z, .string S, rv, .string U, .string H] 30) = W2 := ⟨_, rfl⟩
  rw [hW0] at hK0 hb0
  have k0 := hK0.c0
  have k1 := hK0.c1
  have k2 := hK0.c2
  have k3 := hK0.c3
  have k4 := hK0.c4
  have k5 := hK0.c5
  have k6 := hK0.c6
  have k7 := hK0.c7
  -- the lists of the first call
  have hNe := ns_two W0 x acc
  have hA1 := (Below.refl _ W0).alloc (Nat.le_refl _) (.cells #[.string x, .string acc] 22)
  have hNu := ns_one (W0.alloc (.cells #[.string x, .string acc] 22)) u
  rw [World.size_alloc] at hNu
  have hA2 := (Below.refl _ (W0.alloc (.cells #[.string x, .string acc] 22))).alloc (Nat.le_refl _) (.cells #[.string u] 22)
  have hh := heap_alloc_new ((W0.alloc (.cells #[.string x, .string acc] 22)).alloc (.cells #[.string u] 22)) (.cells #[.slice (some ⟨W0.heap.size + 1, 0, none⟩) 1 1, .slice a1 la.length c1, .slice a2 ld.length c2] 23)
  have hA3 := (Below.refl _ ((W0.alloc (.cells #[.string x, .string acc] 22)).alloc (.cells #[.string u] 22))).alloc (Nat.le_refl _) (.cells #[.slice (some ⟨W0.heap.size + 1, 0, none⟩) 1 1, .slice a1 la.length c1, .slice a2 ld.length c2] 23)
  simp only [World.size_alloc] at hh
  obtain ⟨W1, hW1⟩ : ∃ W1, ((W0.alloc (.cells #[.string x, .string acc] 22)).alloc (.cells #[.string u] 22)).alloc (.cells #[.slice (some ⟨W0.heap.size + 1, 0, none⟩) 1 1, .slice a1 la.length c1, .slice a2 ld.length c2] 23) = W1 := ⟨_, rfl⟩
  have hA12 := bbl hA1 hA2
  have hA := bbl hA12 hA3
  have hN1 := ((hl1.below hb0 (Nat.le_refl _)).below hA (Nat.le_refl _))
  have hN2 := ((hl2.below hb0 (Nat.le_refl _)).below hA (Nat.le_refl _))
  have hE1 := (hNe.below hA2 (Nat.le_refl _)).below hA3 (Nat.le_refl _)
  have hU1 := hNu.below hA3 (Nat.le_refl _)
  rw [hW1] at hN1 hN2 hE1 hU1 hA hh
  have hR1 := rs3 (L0 := [u]) hh hU1 hN1 hN2
  have hK1 := hK0.below hA hK0.lt
  have hb1 := hb0.trans (hA.mono hb0.size)
  have hrd := ready_any nm M O Z S rv U H _ 2 2 [x, acc] _ 3 3 _ _ hE1 rfl (by omega) hR1 rfl (by omega) (by
    intro z hz
    simp at hz
    unfold maxLen
    rcases hz with rfl | rfl | rfl
    · simp
    · show la.length ≤ _; omega
    · show ld.length ≤ _; omega)
  rw [flat3, show [u] ++ (la ++ ld) = u :: (la ++ ld) from rfl] at hrd
  have HRD := Lib.hid hrd
  have HN1 := Lib.hid hN1
  have HN2 := Lib.hid hN2
  clear hl1 hl2 hNe hNu hA1 hA2 hA3 hA12 hA hN1 hN2 hE1 hU1 hR1 hrd hh
  by_cases hrd0 : rdE M O [x, acc] (u :: (la ++ ld)) = 0
  rotate_left
  · have hu : upE M O x acc u la ld = rdE M O [x, acc] (u :: (la ++ ld)) := if_neg hrd0
    have hs : upS M O x acc u la ld = ⟨#[]⟩ := if_neg (by rw [hu]; exact hrd0)
    rw [hu, hs]
    obtain ⟨E, hE⟩ : ∃ E, rdE M O [x, acc] (u :: (la ++ ld)) = E := ⟨_, rfl⟩
    rw [hE] at HRD hrd0 ⊢
    clear hu hs hE
    go_enter Try.func27, Try.ntmps27
    go_wp2_with fail
    refine HRD.out.mono ?_; rintro e w2 ⟨rfl, b2⟩
    go_wp2_with fail
    go_ret2
    exact ⟨rfl, hb1.trans (b2.mono hb1.size)⟩
  obtain ⟨v1, v2, v3, v4⟩ := rdE_ok hrd0
  have hu : upE M O x acc u la ld = wxE u la ld := if_pos hrd0
  have hP := posN_of (valid_mid v1) v4
  have huN : IsN u (nv u) := (hP u (by simp)).1
  have hpl : PosN (la ++ ld) := fun x hx => hP x (List.mem_cons_of_mem _ hx)
  rw [hrd0] at HRD
  have HE := Lib.hid (fun w a b => exponents_any u a1 a2 c1 c2 _ _ la ld w huN a b rfl rfl (by omega) (by omega) hpl.left hpl.right)
  unfold XR at HE
  by_cases hx0 : wxE u la ld = 0
  rotate_left
  · have hs : upS M O x acc u la ld = ⟨#[]⟩ := if_neg (by rw [hu]; exact hx0)
    rw [hs, hu]
    obtain ⟨E, hE⟩ : ∃ E, wxE u la ld = E := ⟨_, rfl⟩
    rw [hE] at HE hx0 ⊢
    obtain ⟨X, hX⟩ : ∃ X, wxX u la ld = X := ⟨_, rfl⟩
    obtain ⟨Y, hY⟩ : ∃ X, wxY u la ld = X := ⟨_, rfl⟩
    rw [hX, hY] at HE
    clear hu hs hE hX hY v1 v2 v3 v4 hP huN hpl hrd0
    go_enter Try.func27, Try.ntmps27
    go_wp2_with fail
    refine HRD.out.mono ?_; rintro e w2 ⟨rfl, b2⟩
    have hN1 := Lib.hid (HN1.out.below b2 (Nat.le_refl _))
    have hN2 := Lib.hid (HN2.out.below b2 (Nat.le_refl _))
    have hb2 := hb1.trans (b2.mono hb1.size)
    go_wp2_with fail
    refine (HE.out _ hN1.out hN2.out).mono ?_; rintro e w3 ⟨rfl, b3⟩
    have hb3 := ((hb2.trans (b3.mono hb2.size)).alloc (hb2.trans (b3.mono hb2.size)).size (.cells #[.bool (zb X), .string (zs X)] 34)).alloc (by have := (hb2.trans (b3.mono hb2.size)).size; simp; omega) (.cells #[.bool (zb Y), .string (zs Y)] 34)
    go_wp2_with fail
    go_ret2
    exact ⟨rfl, hb3⟩
  obtain ⟨zX, zY⟩ := wx_zok hx0 hpl.right
  have hgp := gp_two (X := wxX u la ld) (Y := wxY u la ld) v2 (List.all_eq_true.1 v3 x (by simp)) (List.all_eq_true.1 v3 acc (by simp)) zX zY
  have hs : upS M O x acc u la ld = upP M O x acc (wxX u la ld) (wxY u la ld) := if_pos (by rw [hu]; exact hx0)
  rw [hs, hu, hx0]
  rw [hx0] at HE
  obtain ⟨X, hX⟩ : ∃ X, wxX u la ld = X := ⟨_, rfl⟩
  obtain ⟨Y, hY⟩ : ∃ X, wxY u la ld = X := ⟨_, rfl⟩
  rw [hX, hY] at HE hgp ⊢
  have HP := Lib.hid (fun w0 p q hp hq => prod2 M O x acc (zb X) (zb Y) (zs X) (zs Y) w0 p q hp hq)
  rw [hgp] at HP
  obtain ⟨R, hR⟩ : ∃ R, upP M O x acc X Y = R := ⟨_, rfl⟩
  rw [show gpS M O [x, acc] [(zb X, zs X), (zb Y, zs Y)] = R from hR] at HP
  rw [hR]
  clear hu hs hX hY v1 v2 v3 v4 hP huN hpl hrd0 hx0 zX zY hgp hR
  go_enter Try.func27, Try.ntmps27
  go_wp2_with fail
  refine HRD.out.mono ?_; rintro e w2 ⟨rfl, b2⟩
  have hN1 := Lib.hid (HN1.out.below b2 (Nat.le_refl _))
  have hN2 := Lib.hid (HN2.out.below b2 (Nat.le_refl _))
  have hK2 := hK1.below b2 hK1.lt
  have hb2 := hb1.trans (b2.mono hb1.size)
  clear k0 k1 k2 k3 k4 k5 k6 k7 hK0 hb0 hW0 hW1 hK1 hb1 b2 HN1 HN2 HRD
  go_wp2_with fail
  refine (HE.out _ hN1.out hN2.out).mono ?_; rintro e w3 ⟨rfl, b3⟩
  have hK3 := hK2.below b3 hK2.lt
  have hb3 := hb2.trans (b3.mono hb2.size)
  have hZ1 := (ZBox.new w3 X).alloc (.cells #[.bool (zb Y), .string (zs Y)] 34)
  have hZ2 := ZBox.new (w3.alloc (.cells #[.bool (zb X), .string (zs X)] 34)) Y
  rw [World.size_alloc] at hZ2
  have hK4 := (hK3.alloc (.cells #[.bool (zb X), .string (zs X)] 34)).alloc (.cells #[.bool (zb Y), .string (zs Y)] 34)
  have hb4 := (hb3.alloc hb3.size (.cells #[.bool (zb X), .string (zs X)] 34)).alloc (by have := hb3.size; simp; omega) (.cells #[.bool (zb Y), .string (zs Y)] 34)
  obtain ⟨W4, hW4⟩ : ∃ W4, (w3.alloc (.cells #[.bool (zb X), .string (zs X)] 34)).alloc (.cells #[.bool (zb Y), .string (zs Y)] 34) = W4 := ⟨_, rfl⟩
  rw [hW4] at hZ1 hZ2 hK4 hb4
  have hA := (Below.refl _ W4).alloc (Nat.le_refl _) (.cells #[.string x, .string acc] 22)
  have hY1 := hZ1.below hA hZ1.lt
  have hY2 := hZ2.below hA hZ2.lt
  have c1 := hK4.c1
  have c2 := hK4.c2
  have z0 := hY1.c0
  have z1 := hY1.c1
  have z2 := hY2.c0
  have z3 := hY2.c1
  clear hN1 hN2 hK2 hb2 b3 hK3 hb3 HE
  go_wp2_with fail
  refine (HP.out _ _ _ rfl rfl).mono ?_; rintro e w5 ⟨rfl, b5⟩
  go_wp2_with fail
  go_ret2
  exact ⟨rfl, hb4.trans (b5.mono hb4.size)⟩
set_option maxHeartbeats 4000000 in
theorem removed_any (nm M O Z S : ByteArray) (rv : Value) (U H : ByteArray) (x u gone acc : ByteArray) (w : World) :
    Calls Try.prog 17 #[.agg #[.string nm, .string M, .string O, .string Z, .string S, rv, .string U, .string H], .string x, .string u, .string gone, .string acc] w fun e w' => e = .returned (.tuple #[.string (upS M O x acc u [] [gone]), .int .i64 (upE M O x acc u [] [gone])]) ∧ Below w.heap.size w w' := by
  have hK0 := KB.new w nm M O Z S rv U H
  have hb0 := (Below.refl _ w).alloc (Nat.le_refl _) (.cells #[.string nm, .string M, .string O, .string Z, .string S, rv, .string U, .string H] 30)
  obtain ⟨W0, hW0⟩ : ∃ W2, w.alloc (.cells #[.string nm, .string M, .string O, .string Z, .string S, rv, .string U, .string H] 30) = W2 := ⟨_, rfl⟩
  rw [hW0] at hK0 hb0
  have k0 := hK0.c0
  have k1 := hK0.c1
  have k2 := hK0.c2
  have k3 := hK0.c3
  have k4 := hK0.c4
  have k5 := hK0.c5
  have k6 := hK0.c6
  have k7 := hK0.c7
  have hN := ns_one W0 gone
  have hA := (Below.refl _ W0).alloc (Nat.le_refl _) (.cells #[.string gone] 22)
  have HU := Lib.hid (update_any nm M O Z S rv U H x u none (some ⟨W0.heap.size, 0, none⟩) 0 1 0 1 [] [gone] acc _ (NS.nil _ _) hN rfl rfl (by omega) (by omega))
  have hb1 := hb0.trans (hA.mono hb0.size)
  obtain ⟨R, hR⟩ : ∃ R, upS M O x acc u [] [gone] = R := ⟨_, rfl⟩
  obtain ⟨E, hE⟩ : ∃ R, upE M O x acc u [] [gone] = R := ⟨_, rfl⟩
  rw [hR, hE] at HU ⊢
  clear hR hE hN hA
  go_enter Try.func17, Try.ntmps17
  go_wp2_with fail
  refine HU.out.mono ?_; rintro e w2 ⟨rfl, b2⟩
  go_wp2_with fail
  go_ret2
  exact ⟨rfl, hb1.trans (b2.mono hb1.size)⟩
end Go.Proofs.Ytcjbbneiobnmkaa
