import Derived.Test.YtjminjliomffaaaDoorMer
import Derived.Test.YtjminjliomffaaaDoorPdI
import Derived.Test.YtjminjliomffaaaDoorBytes
import Derived.Test.YtjminjliomffaaaDoorNatA
import Derived.Test.YtjminjliomffaaaDoorFld
import Derived.Deep.Slices
import Derived.Test.YtjminjliomffaaaDoorFacP
import Derived.Test.YtjminjliomffaaaDoorPrmS
import Derived.Test.YtjminjliomffaaaDoorExp
import Derived.Deep.RegionHeld3
/- Certificates, plain: what makes a step well-formed and correct; correct steps are prime. No program in sight. -/
namespace Go.Proofs.YtjminjliomffaaaDoor.Num
/-- a divisor taken out of a number -/
def strip : Nat → Nat → Nat → Nat → Nat × Nat
  | 0, _, r, o => (r, o)
  | k + 1, f, r, o => if r % f = 0 then strip k f (r / f) (o * f) else (r, o)
/-- the part of a number that some divisors make up -/
def partF : List Nat → Nat → Nat → Nat
  | [], _, o => o
  | f :: fs, r, o => partF fs (strip 1024 f r o).1 (strip 1024 f r o).2
/-- a base that proves a number prime -/
def provB (P A : Nat) (Q : List Nat) : Bool := (A ^ (P - 1) % P == 1) && Q.all fun q => !(A ^ ((P - 1) / q) % P == 0) && (Nat.gcd (A ^ ((P - 1) / q) % P - 1) P == 1)
/-- a correct step with factors -/
def corB (P A : Nat) (Q : List Nat) : Bool := (Q.all fun q => (P - 1) % q == 0) && (decide (P < partF Q (P - 1) 1 * partF Q (P - 1) 1) && provB P A Q)
theorem strip_spec : ∀ (k f r o : Nat), 0 < f → ∃ v, (strip k f r o).2 = o * f ^ v ∧ r = f ^ v * (strip k f r o).1
  | 0, f, r, o, _ => ⟨0, by simp [strip], by simp [strip]⟩
  | k + 1, f, r, o, hf => by
    unfold strip
    split
    · next h =>
      obtain ⟨v, h1, h2⟩ := strip_spec k f (r / f) (o * f) hf
      refine ⟨v + 1, by rw [h1, Nat.pow_succ, Nat.mul_assoc, Nat.mul_comm f], ?_⟩
      have h3 : r = f * (r / f) := (Nat.mul_div_cancel' (Nat.dvd_of_mod_eq_zero h)).symm
      conv => lhs; rw [h3, h2]
      rw [Nat.pow_succ, Nat.mul_comm (f ^ v) f, Nat.mul_assoc]
    · exact ⟨0, by simp, by simp⟩
theorem lprod_replicate (f v : Nat) : lprod (List.replicate v f) = f ^ v := by
  induction v with
  | zero => rfl
  | succ v ih => rw [List.replicate_succ, Nat.pow_succ]; show f * lprod _ = _; rw [ih, Nat.mul_comm]
theorem partF_spec : ∀ (Q : List Nat) (r o : Nat), (∀ q ∈ Q, 0 < q) → ∃ qs, (∀ q ∈ qs, q ∈ Q) ∧ partF Q r o = o * lprod qs ∧ lprod qs ∣ r
  | [], r, o, _ => ⟨[], by simp, by simp [partF, lprod], by simp [lprod]⟩
  | f :: fs, r, o, h => by
    obtain ⟨v, h1, h2⟩ := strip_spec 1024 f r o (h f (by simp))
    obtain ⟨qs, h3, h4, h5⟩ := partF_spec fs (strip 1024 f r o).1 (strip 1024 f r o).2 (fun q hq => h q (by simp [hq]))
    refine ⟨List.replicate v f ++ qs, ?_, ?_, ?_⟩
    · intro q hq
      rcases List.mem_append.1 hq with h' | h'
      · rw [(List.mem_replicate.1 h').2]; simp
      · exact List.mem_cons_of_mem _ (h3 q h')
    · show partF fs _ _ = _
      rw [h4, h1, lprod_append, lprod_replicate, Nat.mul_assoc]
    · rw [lprod_append, lprod_replicate]
      rw [h2]
      exact Nat.mul_dvd_mul_left _ h5
/-- a correct step whose factors are prime is prime -/
theorem corB_prime {P A : Nat} {Q : List Nat} (h : corB P A Q = true) (hP : 2 ≤ P) (hQ : ∀ q ∈ Q, IsP q) : IsP P := by
  unfold corB provB at h
  simp only [Bool.and_eq_true, List.all_eq_true, decide_eq_true_eq, beq_iff_eq, Bool.not_eq_true', beq_eq_false_iff_ne] at h
  obtain ⟨hd, hb, h1, h2⟩ := h
  obtain ⟨qs, e1, e2, e3⟩ := partF_spec Q (P - 1) 1 (fun q hq => by have := (hQ q hq).1; omega)
  rw [Nat.one_mul] at e2
  rw [e2] at hb
  refine pock hP e3 (fun q hq => hQ q (e1 q hq)) h1 (fun q hq => ?_) hb
  obtain ⟨n0, g1⟩ := h2 q (e1 q hq)
  generalize A ^ ((P - 1) / q) % P = x at n0 g1
  rw [show x + (P - 1) = (x - 1) + P by omega, Nat.gcd_comm, Nat.gcd_add_self_right, Nat.gcd_comm]
  exact g1
/-- a step: the number, the base, the indices of the factors -/
abbrev Stp := ByteArray × ByteArray × List Int
/-- ascending indices below a bound -/
def asc (i : Nat) : Int → List Int → Bool
  | _, [] => true
  | lo, f :: r => decide (lo < f) && (decide (f < (i : Int)) && asc i f r)
/-- a well-formed step at an index -/
def wfB (i : Nat) (s : Stp) : Bool :=
  validB s.1 && (decide (2 ≤ nv s.1) && (if s.2.2 = [] then decide (s.2.1.size = 0) else asc i (-1) s.2.2 && (validB s.2.1 && (decide (2 ≤ nv s.2.1) && decide (nv s.2.1 < nv s.1)))))
/-- the number of a step -/
def prm (L : List Stp) (f : Int) : Nat := nv (L.getD f.toNat (⟨#[]⟩, ⟨#[]⟩, [])).1
/-- a correct step -/
def crB (L : List Stp) (s : Stp) : Bool := if s.2.2 = [] then decide (nv s.1 < 65536) && isB (nv s.1) else corB (nv s.1) (nv s.2.1) (s.2.2.map (prm L))
def wfAll (L : List Stp) : Bool := (List.range L.length).all fun i => wfB i (L.getD i (⟨#[]⟩, ⟨#[]⟩, []))
/-- what Check answers -/
def ckC (L : List Stp) : Int := if wfAll L = true then (if L.length = 0 then 3 else if 256 < L.length then 6 else if L.all (crB L) = true then 0 else 12) else 3
theorem asc_mem {i : Nat} : ∀ {lo : Int} {l : List Int}, asc i lo l = true → ∀ f ∈ l, lo < f ∧ f < i
  | _, [], _, f, hf => by cases hf
  | lo, g :: r, h, f, hf => by
    simp only [asc, Bool.and_eq_true, decide_eq_true_eq] at h
    rcases List.mem_cons.1 hf with rfl | hf
    · exact ⟨h.1, h.2.1⟩
    · have := asc_mem h.2.2 f hf
      exact ⟨by omega, this.2⟩
theorem ckC_zero {L : List Stp} (h : ckC L = 0) : wfAll L = true ∧ L.all (crB L) = true := by
  unfold ckC at h
  split at h
  · next h1 =>
    refine ⟨h1, ?_⟩
    split at h
    · cases h
    · split at h
      · cases h
      · split at h
        · next h2 => exact h2
        · cases h
  · cases h
/-- all numbers of an accepted certificate are prime -/
theorem ckC_prime {L : List Stp} (h1 : wfAll L = true) (h2 : L.all (crB L) = true) : ∀ i (hi : i < L.length), IsP (nv L[i].1) := by
  intro i
  induction i using Nat.strongRecOn with
  | ind i ih =>
    intro hi
    have w1 := List.all_eq_true.1 h1 i (List.mem_range.2 hi)
    rw [show L.getD i (⟨#[]⟩, ⟨#[]⟩, []) = L[i] by simp [List.getD_eq_getElem?_getD, hi]] at w1
    have c1 := List.all_eq_true.1 h2 _ (List.getElem_mem hi)
    generalize L[i] = s at w1 c1
    unfold wfB at w1
    unfold crB at c1
    simp only [Bool.and_eq_true, decide_eq_true_eq] at w1
    obtain ⟨_, w2, w3⟩ := w1
    by_cases hs : s.2.2 = []
    · rw [if_pos hs] at c1
      simp only [Bool.and_eq_true, decide_eq_true_eq] at c1
      exact isB_prime (by omega) c1.2
    · rw [if_neg hs] at c1 w3
      simp only [Bool.and_eq_true] at w3
      refine corB_prime c1 w2 (fun q hq => ?_)
      obtain ⟨f, hf, rfl⟩ := List.mem_map.1 hq
      obtain ⟨f1, f2⟩ := asc_mem w3.1 f hf
      have f3 : f.toNat < i := by omega
      have := ih f.toNat f3 (by omega)
      unfold prm
      rw [show L.getD f.toNat (⟨#[]⟩, ⟨#[]⟩, []) = L[f.toNat] by simp [List.getD_eq_getElem?_getD, show f.toNat < L.length by omega]]
      exact this
end Go.Proofs.YtjminjliomffaaaDoor.Num

/- Certificates in memory: slices of steps; an argument that is a certificate, opened. -/
namespace Go.Proofs.YtjminjliomffaaaDoor
open Go.RowKit Go.WideShapes Go.ChangeShapes Go.ChangeAt Num
set_option linter.unusedVariables false
set_option maxRecDepth 20000
/-- a row of indices -/
def FS (w : World) (a : Option Addr) (F : List Int) : Prop := ∀ k (h : k < F.length), ∃ b off, a = some ⟨b, off, none⟩ ∧ w.cell? ⟨b, off + k, none⟩ = some (.int .i64 F[k])
/-- a step with where its factors lie -/
abbrev StR := ByteArray × ByteArray × (Option Addr × Nat × List Int)
/-- the step alone -/
def stp (r : StR) : Stp := (r.1, r.2.1, r.2.2.2.2)
/-- a slice of steps -/
def CS (w : World) (a : Option Addr) (R : List StR) : Prop := ∀ k (h : k < R.length), ∃ b off, a = some ⟨b, off, none⟩ ∧ w.cell? ⟨b, off + k * 3, none⟩ = some (.string R[k].1) ∧ w.cell? ⟨b, off + k * 3 + 1, none⟩ = some (.string R[k].2.1) ∧ w.cell? ⟨b, off + k * 3 + 2, none⟩ = some (.slice R[k].2.2.1 R[k].2.2.2.2.length R[k].2.2.2.1) ∧ FS w R[k].2.2.1 R[k].2.2.2.2
theorem cells_keep {w w' : World} {K : Nat} (hb : Below K w w') (hK : w.heap.size ≤ K) : ∀ p v, w.cell? p = some v → w'.cell? p = some v := fun p v hv => by
  have h2 : p.block < w.heap.size := World.block_lt_of_cell? w _ hv
  rw [hb.cell (p := p) (by omega)]
  exact hv
theorem FS.keep {w w' : World} {a : Option Addr} {F : List Int} (h : FS w a F) (hk : ∀ p v, w.cell? p = some v → w'.cell? p = some v) : FS w' a F := fun k hk' => by
  obtain ⟨b, off, h1, h2⟩ := h k hk'
  exact ⟨b, off, h1, hk _ _ h2⟩
theorem CS.keep {w w' : World} {a : Option Addr} {R : List StR} (h : CS w a R) (hk : ∀ p v, w.cell? p = some v → w'.cell? p = some v) : CS w' a R := fun k hk' => by
  obtain ⟨b, off, h1, h2, h3, h4, h5⟩ := h k hk'
  exact ⟨b, off, h1, hk _ _ h2, hk _ _ h3, hk _ _ h4, h5.keep hk⟩
theorem CS.below {w w' : World} {a : Option Addr} {R : List StR} {K : Nat} (h : CS w a R) (hb : Below K w w') (hK : w.heap.size ≤ K) : CS w' a R := h.keep (cells_keep hb hK)
theorem FS.below {w w' : World} {a : Option Addr} {F : List Int} {K : Nat} (h : FS w a F) (hb : Below K w w') (hK : w.heap.size ≤ K) : FS w' a F := h.keep (cells_keep hb hK)
theorem FS.nil (w : World) (a : Option Addr) : FS w a [] := fun k hk => by simp at hk
theorem CS.nil (w : World) (a : Option Addr) : CS w a [] := fun k hk => by simp at hk
section
variable {H : Type} {enc : TypeId × Value → H} {P : Program} {w : World} {base : Nat} {spare : Nat → Bool} {held : Bool} {t : TypeId} {cs : List Value} {x : DataW H × List MemPlace} {fs : Array Field} {f : Field} {j fuel : Nat}
/-- a field that is a slice of integers -/
theorem fld_ints {e : TypeId} (ht : P.underlying t = some (.struct fs)) (hf : fs[j]? = some f) (hu : P.underlying f.type = some (.slice e)) (he : P.underlying e = some (.int .i64)) (hc : P.cellsOf f.type = 1) (hce : P.cellsOf e = 1) (h : DataW.trod enc P w base spare held fuel t cs = some x) :
    ∃ (ao : Option Addr) (cm : Nat) (L : List Int), cs[f.offset]? = some (.slice ao L.length cm) ∧ L.length ≤ maxLen ∧ (∀ n ∈ L, (Lit.int .i64 n).wf = true) ∧ FS w ao L := by
  obtain ⟨n, y, hy⟩ := fld ht hf h
  rw [hc] at hy
  rcases open_ints hu he hce hy with ⟨hcs, hx⟩ | ⟨a, len, cap, zs, hcs, _, hl, hm, hz, hx, hcell, hws⟩
  · exact ⟨none, 0, [], one_at hcs, by simp, by simp, FS.nil _ _⟩
  · have hle : len ≤ zs.length := by rw [hz]; split <;> omega
    have hlen2 : (zs.take len).length = len := by simp; omega
    refine ⟨some a, cap, zs.take len, by rw [hlen2]; exact one_at hcs, by rw [hlen2]; omega, fun s hs => hws s (List.mem_of_mem_take hs), fun k hk => ?_⟩
    rw [hlen2] at hk
    obtain ⟨b, off, spot⟩ := a
    have hspot : spot = none := by simpa [Addr.add] using World.cell?_spot (hcell 0 (by omega))
    subst hspot
    refine ⟨b, off, rfl, ?_⟩
    rw [← Go.WideShapes.add_plain, hcell k (by omega)]
    congr 2
    simp [List.getD_eq_getElem?_getD, show k < zs.length by omega]
end
/-- the size of what a step holds fits -/
def StR.ok (r : StR) : Prop := r.1.size ≤ maxLen ∧ r.2.1.size ≤ maxLen ∧ r.2.2.2.2.length ≤ maxLen ∧ ∀ n ∈ r.2.2.2.2, (Lit.int .i64 n).wf = true
section
variable {H : Type} {enc : TypeId × Value → H} {W : World} {base : Nat} {v : Value} {d : DataW H} {p : List MemPlace}
/-- an argument of the type Certificate -/
theorem open_Ct (hv : Value.okWide Tryd.prog W .any base 33 v) (h : DataW.Trod enc Tryd.prog W 0 (fun _ => true) true 33 v d p) :
    ∃ (ao : Option Addr) (cm : Nat) (R : List StR), v = .agg #[.slice ao R.length cm] ∧ R.length ≤ maxLen ∧ (∀ r ∈ R, r.ok) ∧ CS W ao R := by
  obtain ⟨cs, rfl, hsz⟩ := okWide_struct Tryd.underlying33 hv
  obtain ⟨l⟩ := cs
  obtain ⟨fuel, hf⟩ := h
  have hf' : DataW.trod enc Tryd.prog W 0 (fun _ => true) true fuel 33 l = some (d, p) := hf
  obtain ⟨n, y, hy⟩ := fld (j := 0) Tryd.underlying33 rfl hf'
  have hl : l.length = 1 := hsz.trans (by kernel_rfl)
  match l, hl with
  | [c0], _ =>
  replace hy : DataW.trod enc Tryd.prog W 0 (fun _ => true) true n 31 [c0] = some y := hy
  rcases Go.Deep.open_slice Tryd.underlying31 hy with ⟨hcs, hx⟩ | ⟨a, len, cap, m, n', D, Pl, hcs, _, hl, hm, hmm, rfl, hx⟩
  · obtain rfl : c0 = .slice none 0 0 := by simpa using hcs
    exact ⟨none, 0, [], rfl, by simp, by simp, CS.nil _ _⟩
  · obtain rfl : c0 = .slice (some a) len cap := by simpa using hcs
    have ce : Tryd.prog.cellsOf 44 = 3 := by kernel_rfl
    have hm' : len ≤ m := by rw [hmm]; split <;> omega
    have each : ∀ i, i < len → ∃ q : StR, q.ok ∧ W.cell? (a.add (i * 3)) = some (.string q.1) ∧ W.cell? (a.add (i * 3 + 1)) = some (.string q.2.1) ∧ W.cell? (a.add (i * 3 + 2)) = some (.slice q.2.2.1 q.2.2.2.2.length q.2.2.2.1) ∧ FS W q.2.2.1 q.2.2.2.2 := by
      intro i hi
      obtain ⟨cs', h1, h2⟩ := hx i (by omega)
      rw [ce] at h1
      obtain ⟨_, hlen, hcell⟩ := World.cells?_some h1
      obtain ⟨s0, e0, z0⟩ := fld_string (j := 0) Tryd.underlying44 rfl Tryd.underlying27 (by kernel_rfl) h2
      obtain ⟨s1, e1, z1⟩ := fld_string (j := 1) Tryd.underlying44 rfl Tryd.underlying27 (by kernel_rfl) h2
      obtain ⟨ao, cm, L, e2, z2, z3, z4⟩ := fld_ints (j := 2) Tryd.underlying44 rfl Tryd.underlying42 Tryd.underlying3 (by kernel_rfl) (by kernel_rfl) h2
      match cs', hlen with
      | [v0, v1, v2], _ =>
      simp at e0 e1 e2
      subst e0 e1 e2
      have g0 := hcell 0 (by omega)
      have g1 := hcell 1 (by omega)
      have g2 := hcell 2 (by omega)
      rw [Go.Deep.add_add] at g0 g1 g2
      exact ⟨(s0, s1, ao, cm, L), ⟨z0, z1, z2, z3⟩, by simpa using g0, by simpa using g1, by simpa using g2, z4⟩
    obtain ⟨q, hq⟩ := Go.Deep.choose_lt each
    have hlen : ((List.range len).map q).length = len := by simp
    refine ⟨some a, cap, (List.range len).map q, by rw [hlen], by rw [hlen]; omega, fun r hr => ?_, fun k hk => ?_⟩
    · obtain ⟨i, hi, rfl⟩ := List.mem_map.1 hr
      exact (hq i (List.mem_range.1 hi)).1
    · rw [hlen] at hk
      obtain ⟨h0, h1, h2, h3, h4⟩ := hq k hk
      obtain ⟨b, off, spot⟩ := a
      have hspot : spot = none := by simpa [Addr.add] using World.cell?_spot (hq 0 (by omega)).2.1
      subst hspot
      rw [Go.WideShapes.add_plain] at h1 h2 h3
      refine ⟨b, off, rfl, ?_⟩
      simp only [List.getElem_map, List.getElem_range]
      exact ⟨h1, h2, h3, h4⟩
end
end Go.Proofs.YtjminjliomffaaaDoor

/- certificate: less, divide, enough, part, tiny; whether a base proves a number prime. -/
namespace Go.Proofs.YtjminjliomffaaaDoor
open Go.RowKit Num
set_option maxRecDepth 20000
set_option linter.unusedVariables false
theorem ncmp3 (a b : Nat) : (a < b ∧ ncmp a b = -1) ∨ (a = b ∧ ncmp a b = 0) ∨ (b < a ∧ ncmp a b = 1) := by
  unfold ncmp
  rcases Nat.lt_trichotomy a b with h | h | h
  · exact .inl ⟨h, if_pos h⟩
  · exact .inr (.inl ⟨h, by rw [if_neg (by omega), if_neg (by omega)]⟩)
  · exact .inr (.inr ⟨h, by rw [if_neg (by omega), if_pos h]⟩)
theorem cOf1 (w : World) : Calls Tryd.prog 46 #[.int .u64 1] w fun e w' => e = .returned (.string (enc 1)) ∧ Below w.heap.size w w' := Of_any 1 w (by omega)
theorem cOf2 (w : World) : Calls Tryd.prog 46 #[.int .u64 2] w fun e w' => e = .returned (.string (enc 2)) ∧ Below w.heap.size w w' := Of_any 2 w (by omega)
theorem isC1 : IsN (enc 1) 1 := IsN.mk' (by decide)
theorem isC2 : IsN (enc 2) 2 := IsN.mk' (by decide)
theorem cell0_keep {w w' : World} {p : Nat} {v : Value} {K : Nat} (h : w.cell? ⟨p, 0, none⟩ = some v) (hb : Below K w w') (hK : w.heap.size ≤ K) : w'.cell? ⟨p, 0, none⟩ = some v := by
  have h2 : p < w.heap.size := World.block_lt_of_cell? w _ h
  rw [hb.cell (p := ⟨p, 0, none⟩) (by show p < K; omega)]
  exact h
/-- the number of a slot -/
def nvV : Value → Nat | .string s => nv s | _ => 0
theorem ceLess_any (s : ByteArray) (a : Nat) (w : World) (hs : IsN s a) (h : 1 ≤ a) :
    Calls Tryd.prog 30 #[.string s] w fun e w' => e = .returned (.string (enc (a - 1))) ∧ Below w.heap.size w w' := by
  have HS := Lib.hid (fun w => Sub_any s (enc 1) a 1 w hs isC1 h)
  clear hs h
  go_enter Tryd.func30, Tryd.ntmps30
  go_wp2_with fail
  refine (cOf1 _).mono ?_; rintro e w1 ⟨rfl, b1⟩
  go_wp2_with fail
  refine (HS.out _).mono ?_; rintro e w2 ⟨rfl, b2⟩
  have b3 := b1.trans (b2.mono b1.size)
  go_wp2_with fail
  go_ret
  exact ⟨rfl, b3⟩
theorem ceDivide_any (s t : ByteArray) (a b : Nat) (w : World) (hs : IsN s a) (ht : IsN t b) (h0 : 0 < b) :
    Calls Tryd.prog 54 #[.string s, .string t] w fun e w' => e = .returned (.tuple #[.string (enc (a / b)), .bool (a % b == 0)]) ∧ Below w.heap.size w w' := by
  have HD := (fun w => DivMod_any s t a b w hs ht h0)
  clear hs ht h0
  obtain ⟨r, hr⟩ : ∃ r, a % b = r := ⟨_, rfl⟩
  obtain ⟨q, hq⟩ : ∃ q, a / b = q := ⟨_, rfl⟩
  simp only [hr, hq] at HD ⊢
  clear hr hq
  by_cases h : r = 0
  · subst h
    simp only [show enc 0 = ⟨#[]⟩ from rfl] at HD
    rw [show ((0 : Nat) == 0) = true from rfl]
    have HD := Lib.hid HD
    go_enter Tryd.func54, Tryd.ntmps54
    go_wp2_with fail
    refine (HD.out _).mono ?_; rintro e w1 ⟨rfl, b1⟩
    go_wp2_with fail
    go_ret2
    exact ⟨rfl, b1⟩
  · obtain ⟨k1, k2⟩ := And.intro (notEmpty_enc (b := r) (by omega)) (toList_enc_nil (b := r) (by omega))
    rw [show (r == 0) = false by rw [beq_eq_false_iff_ne]; exact h]
    have HD := Lib.hid HD
    clear h
    go_enter Tryd.func54, Tryd.ntmps54
    go_wp2_with fail
    refine (HD.out _).mono ?_; rintro e w1 ⟨rfl, b1⟩
    go_wp2_with fail
    go_ret2
    exact ⟨rfl, b1⟩
theorem ceEnough_any (s t : ByteArray) (a b : Nat) (w : World) (hs : IsN s a) (ht : IsN t b) :
    Calls Tryd.prog 32 #[.string s, .string t] w fun e w' => e = .returned (.bool (decide (b < a * a))) ∧ Below w.heap.size w w' := by
  have HM := fun w => Mul_any s s a a w hs hs
  obtain ⟨c, hc⟩ : ∃ c, a * a = c := ⟨_, rfl⟩
  simp only [hc] at HM ⊢
  by_cases h : blen c ≤ 128
  · simp only [fitS_ok h, fitE_ok h] at HM
    have HC := fun w => Cmp_any (enc c) t c b w (IsN.mk' h) ht
    have HM := Lib.hid HM
    clear hs ht hc h
    rcases ncmp3 c b with ⟨h8, u2⟩ | ⟨h8, u2⟩ | ⟨h8, u2⟩
    all_goals
      rw [u2] at HC
      have HC := Lib.hid HC
      first | rw [show decide (b < c) = false from decide_eq_false (by omega)] | rw [show decide (b < c) = true from decide_eq_true (by omega)]
      clear h8 u2
      go_enter Tryd.func32, Tryd.ntmps32
      go_wp2_with fail
      refine (HM.out _).mono ?_; rintro e w1 ⟨rfl, b1⟩
      go_wp2_with fail
      refine (HC.out _).mono ?_; rintro e w2 ⟨rfl, rfl⟩
      go_wp2_with fail
      go_ret
      exact ⟨rfl, b1⟩
  · simp only [show fitS c = ⟨#[]⟩ from if_neg h, show fitE c = 5 from if_neg h] at HM
    have h2 : b < c := by
      rcases Nat.lt_or_ge b c with h' | h'
      · exact h'
      · exact absurd (Nat.le_trans (blen_mono h') ht.le) h
    rw [decide_eq_true h2]
    have HM := Lib.hid HM
    clear hs ht hc h h2
    go_enter Tryd.func32, Tryd.ntmps32
    go_wp2_with fail
    refine (HM.out _).mono ?_; rintro e w1 ⟨rfl, b1⟩
    go_wp2_with fail
    go_ret
    exact ⟨rfl, b1⟩
theorem map_enc_at {Q : List Nat} {k : Nat} (hk : k < Q.length) : (Q.map enc)[k]'(by simpa using hk) = enc Q[k] := by simp
set_option maxHeartbeats 4000000 in
theorem cePart_any (s : ByteArray) (m : Nat) (v : Value) (Q : List Nat) (w : World) (hs : IsN s m) (h1 : 1 ≤ m) (hv : SL w v (Q.map enc)) (hQ : ∀ q ∈ Q, 2 ≤ q ∧ blen q ≤ 128) (hL : Q.length ≤ 1000000) :
    Calls Tryd.prog 33 #[.string s, v] w fun e w' => e = .returned (.string (enc (partF Q m 1))) ∧ Below w.heap.size w w' := by
  obtain ⟨ao, c, rfl, H⟩ := hv.form
  have hlen : (Q.map enc).length = Q.length := by simp
  obtain ⟨n, hn⟩ : ∃ n, Q.length = n := ⟨_, rfl⟩
  rw [hlen, hn]
  rw [hn] at hL
  have H2 := Lib.hid (fun k (hk : k < Q.length) => by have := H.out k (by simpa using hk); rw [map_enc_at hk] at this; exact this : ∀ k (hk : k < Q.length), ∃ b, ao = some ⟨b, 0, none⟩ ∧ b < w.heap.size ∧ w.cell? ⟨b, k, none⟩ = some (.string (enc Q[k])))
  have HQ := Lib.hid hQ
  have hbm : blen m ≤ 128 := hs.le
  obtain rfl := hs.eq
  have HP := Lib.hid (rfl : partF Q m 1 = partF Q m 1)
  obtain ⟨R, hR⟩ : ∃ R, partF Q m 1 = R := ⟨_, rfl⟩
  rw [hR]
  have HR := Lib.hid hR
  have HN := Lib.hid hn
  clear hs hv H hlen hQ HP hR hn
  go_enter Tryd.func33, Tryd.ntmps33
  go_wp2_with fail
  refine (cOf1 _).mono ?_; rintro e w1 ⟨rfl, b1⟩
  go_wp2_with fail
  go_loopw [5, 6, 15] (fun v5 v6 i wr => ∃ (k r o : Nat), k ≤ n ∧ i = .int .i64 k ∧ v5 = .string (enc r) ∧ v6 = .string (enc o) ∧ Hid (partF (Q.drop k) r o = R) ∧ 1 ≤ r ∧ Hid (o * r = m) ∧ Below w.heap.size w wr) (fun _ _ i _ => n - (intOf i).toNat)
  case atStart => exact ⟨0, m, 1, by omega, rfl, rfl, rfl, by simpa using HR, h1, Lib.hid (by omega), b1⟩
  case round =>
    clear b1
    obtain ⟨k, r, o, hk, rfl, rfl, rfl, hP, hr, ho, hB⟩ := hrel
    by_cases hlt : k < n
    · have hkQ : k < Q.length := by rw [HN.out]; exact hlt
      obtain ⟨b, rfl, hb, hc⟩ := H2.out k hkQ
      have hf := HQ.out _ (List.getElem_mem hkQ)
      have hd : Q.drop k = Q[k] :: Q.drop (k + 1) := List.drop_eq_getElem_cons hkQ
      have hP2 : partF (Q.drop (k + 1)) (strip 1024 Q[k] r o).1 (strip 1024 Q[k] r o).2 = R := by have := hP.out; rw [hd] at this; exact this
      replace hc := (hB.cell (p := ⟨b, k, none⟩) hb).trans hc
      generalize Q[k] = f at hc hf hP2 hd
      clear hP hd hkQ
      obtain ⟨f2, fb⟩ := hf
      obtain ⟨T, hT⟩ : ∃ T, strip 1024 f r o = T := ⟨_, rfl⟩
      rw [hT] at hP2
      have HT := Lib.hid hT
      have HP2 := Lib.hid hP2
      have hr10 : r < 2 ^ 1024 := by
        have h1 : o * r < 256 ^ 128 := by rw [ho.out]; exact (blen_le_iff m 128).1 hbm
        have h2 : 1 ≤ o := by
          rcases Nat.eq_zero_or_pos o with h | h
          · have := ho.out; rw [h, Nat.zero_mul] at this; omega
          · exact h
        have h3 : 1 * r ≤ o * r := Nat.mul_le_mul_right r h2
        have h4 : (256 : Nat) ^ 128 = 2 ^ 1024 := by decide +kernel
        rw [← h4]; omega
      have HR10 := Lib.hid hr10
      have isF : IsN (enc f) f := IsN.mk' fb
      have IF := Lib.hid isF
      clear hT hP2 hr10 isF fb
      go_wp2_with fail
      go_loopw [5, 6] (fun v5 v6 wq => ∃ (j x y : Nat), v5 = .string (enc x) ∧ v6 = .string (enc y) ∧ Hid (strip j f x y = T) ∧ Hid (x < 2 ^ j) ∧ 1 ≤ x ∧ Hid (y * x = m) ∧ Below w.heap.size w wq) (fun v5 _ _ => nvV v5)
      case atStart => exact ⟨1024, r, o, rfl, rfl, HT, HR10, hr, ho, hB⟩
      case round =>
        clear hc hB HR10 ho hr HT
        obtain ⟨j, x, y, rfl, rfl, hS, hx, hx1, hy, hB⟩ := hrel
        have hxm : x ≤ m := by
          have h2 : 1 ≤ y := by
            rcases Nat.eq_zero_or_pos y with h | h
            · have := hy.out; rw [h, Nat.zero_mul] at this; omega
            · exact h
          have := Nat.mul_le_mul_right x h2
          have := hy.out
          omega
        have hym : y ≤ m := by have := Nat.mul_le_mul_left y hx1; have := hy.out; omega
        have IX : IsN (enc x) x := IsN.mk' (Nat.le_trans (blen_mono hxm) hbm)
        have IY : IsN (enc y) y := IsN.mk' (Nat.le_trans (blen_mono hym) hbm)
        have HD := fun w => ceDivide_any (enc x) (enc f) x f w IX IF.out (by omega)
        by_cases hdv : x % f = 0
        · have e1 : (x % f == 0) = true := by rw [hdv]; rfl
          have hxf : f * (x / f) = x := Nat.mul_div_cancel' (Nat.dvd_of_mod_eq_zero hdv)
          have hyf : y * f * (x / f) = m := by rw [Nat.mul_assoc, hxf]; exact hy.out
          have hq1 : 1 ≤ x / f := by
            rcases Nat.eq_zero_or_pos (x / f) with h | h
            · rw [h] at hxf; omega
            · exact h
          have hlt2 : x / f < x := Nat.div_lt_self (by omega) (by omega)
          have hyfm : y * f ≤ m := by have := Nat.mul_le_mul_left (y * f) hq1; omega
          have hbf : blen (y * f) ≤ 128 := Nat.le_trans (blen_mono hyfm) hbm
          have HM := fun w => Mul_any (enc y) (enc f) y f w IY IF.out
          simp only [fitS_ok hbf, fitE_ok hbf] at HM
          simp only [e1] at HD
          obtain ⟨j', rfl⟩ : ∃ j', j = j' + 1 := by
            cases j with
            | zero => have := hx.out; simp at this; omega
            | succ j' => exact ⟨j', rfl⟩
          have hS2 : strip j' f (x / f) (y * f) = T := by
            have := hS.out
            unfold strip at this
            rw [if_pos hdv] at this
            exact this
          have hx2 : x / f < 2 ^ j' := by
            have h1 := hx.out
            rw [Nat.pow_succ] at h1
            have h2 : 2 * (x / f) ≤ f * (x / f) := Nat.mul_le_mul_right _ f2
            omega
          have HS2 := Lib.hid hS2
          have HX2 := Lib.hid hx2
          have HY2 := Lib.hid hyf
          have HMs : nv (enc (x / f)) < nv (enc x) := by rw [nv_enc, nv_enc]; exact hlt2
          have HD := Lib.hid HD
          have HM := Lib.hid HM
          generalize x / f = x2 at *
          generalize y * f = y2 at *
          clear hdv e1 hxf hyf hlt2 hyfm hbf hS hx hy hS2 hx2 IX IY
          go_wp2_with fail
          refine (HD.out _).mono ?_; rintro e w2 ⟨rfl, b2⟩
          go_wp2_with fail
          refine (HM.out _).mono ?_; rintro e w3 ⟨rfl, b3⟩
          have b4 := (hB.trans (b2.mono hB.size))
          have b5 := b4.trans (b3.mono b4.size)
          go_wp2_with fail
          exact ⟨⟨j', x2, y2, by trivial, by trivial, HS2, HX2, hq1, HY2, b5⟩, by simpa [nvV] using HMs⟩
        · have e1 : (x % f == 0) = false := by rw [beq_eq_false_iff_ne]; exact hdv
          simp only [e1] at HD
          have hT : T = (x, y) := by
            have := hS.out
            cases j with
            | zero => have := hx.out; simp at this; omega
            | succ j' =>
              unfold strip at this
              rw [if_neg hdv] at this
              exact this.symm
          have hP3 := HP2.out
          rw [hT] at hP3
          have HP3 := Lib.hid hP3
          have HD := Lib.hid HD
          generalize x / f = x2 at *
          clear hdv e1 hS hx hT hP3 IX IY
          go_wp2_with fail
          refine (HD.out _).mono ?_; rintro e w2 ⟨rfl, b2⟩
          have b4 := (hB.trans (b2.mono hB.size))
          go_wp2_with fail
          exact ⟨⟨k + 1, x, y, by omega, by go_num, by trivial, by trivial, HP3, hx1, hy, b4⟩, by simp [intOf]; omega⟩
    · obtain rfl : k = n := by omega
      have hE : R = o := by
        have := hP.out
        rw [List.drop_of_length_le (by rw [HN.out]; omega)] at this
        exact this.symm
      subst hE
      go_wp2_with fail
      go_ret
      exact ⟨rfl, hB⟩
theorem isS_of {s : ByteArray} {a : Nat} (hs : IsN s a) (h8 : blen a ≤ 8) : isS s = isB a := by
  have h : s.size ≤ 8 := by rw [hs.size]; exact h8
  unfold isS okN
  rw [hs.valid, hs.nv, decide_eq_true h]
  rfl
set_option maxHeartbeats 1000000 in
theorem ceTiny_any (s : ByteArray) (a : Nat) (w : World) (hs : IsN s a) (hT : Tab w) :
    Calls Tryd.prog 28 #[.string s] w fun e w' => e = .returned (.bool (decide (a < 65536) && isB a)) ∧ Below w.heap.size w w' := by
  have HS := fun w => Small_any s a w hs
  have HI := fun w h => prIs_any s w h
  by_cases h8 : blen a ≤ 8
  · rw [isS_of hs h8] at HI
    rw [sm_short h8] at HS
    simp only [h8, decide_true] at HS
    obtain ⟨b, hb⟩ : ∃ b, isB a = b := ⟨_, rfl⟩
    rw [hb] at HI ⊢
    have HS := Lib.hid HS
    have HI := Lib.hid HI
    clear hb
    by_cases hlt : a < 65536
    · rw [decide_eq_true hlt, Bool.true_and]
      have d1 : decide ((a : Int) < 65536) = true := decide_eq_true (by omega)
      have d2 : (a : Int) < 65536 := by omega
      clear h8 hs
      go_enter Tryd.func28, Tryd.ntmps28
      go_wp2_with fail
      refine (HS.out _).mono ?_; rintro e w1 ⟨rfl, rfl⟩
      go_wp2_with fail
      refine (HI.out _ hT).mono ?_; rintro e w1 ⟨rfl, b1⟩
      go_wp2_with fail
      go_ret
      exact ⟨rfl, b1⟩
    · rw [decide_eq_false hlt, Bool.false_and]
      have d1 : decide ((a : Int) < 65536) = false := decide_eq_false (by omega)
      have d2 : ¬ (a : Int) < 65536 := by omega
      clear h8 hs
      go_enter Tryd.func28, Tryd.ntmps28
      go_wp2_with fail
      refine (HS.out _).mono ?_; rintro e w1 ⟨rfl, rfl⟩
      go_wp2_with fail
      refine (HI.out _ hT).mono ?_; rintro e w1 ⟨rfl, b1⟩
      go_wp2_with fail
      go_ret
      exact ⟨rfl, b1⟩
  · have hlt : ¬ a < 65536 := fun h => h8 (Nat.le_trans (blen_mono (show a ≤ 65535 by omega)) (by decide +kernel))
    rw [decide_eq_false hlt, Bool.false_and]
    simp only [h8, decide_false] at HS
    have HS := Lib.hid HS
    have HI := Lib.hid HI
    clear h8 hs hlt
    go_enter Tryd.func28, Tryd.ntmps28
    go_wp2_with fail
    refine (HS.out _).mono ?_; rintro e w1 ⟨rfl, rfl⟩
    go_wp2_with fail
    refine (HI.out _ hT).mono ?_; rintro e w1 ⟨rfl, b1⟩
    go_wp2_with fail
    go_ret
    exact ⟨rfl, b1⟩
end Go.Proofs.YtjminjliomffaaaDoor

/- certificate.proves: whether a base proves a number prime. -/
namespace Go.Proofs.YtjminjliomffaaaDoor
open Go.RowKit Num
set_option maxRecDepth 20000
set_option linter.unusedVariables false
/-- a factor at which the base fails -/
def Num.badF (P A q : Nat) : Bool := (A ^ ((P - 1) / q) % P == 0) || !(Nat.gcd (A ^ ((P - 1) / q) % P - 1) P == 1)
theorem Num.provB_eq (P A : Nat) (Q : List Nat) : provB P A Q = ((A ^ (P - 1) % P == 1) && !(Q.any (badF P A))) := by
  unfold provB
  congr 1
  rw [List.not_any_eq_all_not]
  congr 1
  funext q
  simp [badF]
/-- the captured variables -/
structure PBx (w : World) (pm pb pn po : Nat) (n : Nat) (A : ByteArray) : Prop where
  cm : w.cell? ⟨pm, 0, none⟩ = some (.string (enc (n - 1)))
  cb : w.cell? ⟨pb, 0, none⟩ = some (.string A)
  cn : w.cell? ⟨pn, 0, none⟩ = some (.string (enc n))
  co : w.cell? ⟨po, 0, none⟩ = some (.string (enc 1))
theorem PBx.below {w w' : World} {pm pb pn po n : Nat} {A : ByteArray} {K : Nat} (h : PBx w pm pb pn po n A) (hb : Below K w w') (hK : w.heap.size ≤ K) : PBx w' pm pb pn po n A :=
  ⟨cell0_keep h.cm hb hK, cell0_keep h.cb hb hK, cell0_keep h.cn hb hK, cell0_keep h.co hb hK⟩
theorem keepP {w w1 w2 : World} {pn po : Nat} {N O : ByteArray} (h : w1.cell? ⟨pn, 0, none⟩ = some (.string N) ∧ w1.cell? ⟨po, 0, none⟩ = some (.string O) ∧ Below w.heap.size w w1) (b : Below w1.heap.size w1 w2) :
    w2.cell? ⟨pn, 0, none⟩ = some (.string N) ∧ w2.cell? ⟨po, 0, none⟩ = some (.string O) ∧ Below w.heap.size w w2 :=
  ⟨cell0_keep h.1 b (Nat.le_refl _), cell0_keep h.2.1 b (Nat.le_refl _), h.2.2.trans (b.mono h.2.2.size)⟩
set_option maxHeartbeats 4000000 in
theorem ceProves1_any (q n a : Nat) (A : ByteArray) (pm pb pn po : Nat) (w : World) (hq : IsN (enc q) q) (hq0 : 0 < q) (hn : IsN (enc n) n) (h2 : 2 ≤ n) (hA : IsN A a) (hB : PBx w pm pb pn po n A) :
    Calls Tryd.prog 88 #[.string (enc q), .pointer (some ⟨pm, 0, none⟩), .pointer (some ⟨pb, 0, none⟩), .pointer (some ⟨pn, 0, none⟩), .pointer (some ⟨po, 0, none⟩)] w fun e w' => e = .returned (.bool (badF n a q)) ∧ Below w.heap.size w w' := by
  have hm : IsN (enc (n - 1)) (n - 1) := IsN.mk' (Nat.le_trans (blen_mono (by omega)) hn.le)
  have HD := Lib.hid (fun w => ceDivide_any (enc (n - 1)) (enc q) (n - 1) q w hm hq hq0)
  have he : IsN (enc ((n - 1) / q)) ((n - 1) / q) := IsN.mk' (Nat.le_trans (blen_mono (Nat.div_le_self _ _)) hm.le)
  have HE := (fun w => Exp_any A (enc ((n - 1) / q)) (enc n) a ((n - 1) / q) n w hA he hn (by omega))
  have hxn : a ^ ((n - 1) / q) % n < n := Nat.mod_lt _ (by omega)
  unfold badF
  obtain ⟨X, hX⟩ : ∃ X, a ^ ((n - 1) / q) % n = X := ⟨_, rfl⟩
  simp only [hX] at HE hxn ⊢
  have hx : IsN (enc X) X := IsN.mk' (Nat.le_trans (blen_mono (show X ≤ n by omega)) hn.le)
  by_cases h0 : X = 0
  · subst h0
    simp only [show enc 0 = ⟨#[]⟩ from rfl] at HE
    rw [show ((0 : Nat) == 0) = true from rfl, Bool.true_or]
    have HE := Lib.hid HE
    have HB := Lib.hid hB
    have cm := hB.cm
    clear hX hxn hx hm he hA hq hq0 h2 hn hB
    go_enter Tryd.func88, Tryd.ntmps88
    go_wp2_with fail
    refine (HD.out _).mono ?_; rintro e w1 ⟨rfl, b1⟩
    have hB1 := HB.out.below b1 (Nat.le_refl _)
    have cb := hB1.cb
    have cn := hB1.cn
    go_wp2_with fail
    refine (HE.out _).mono ?_; rintro e w2 ⟨rfl, b2⟩
    have b3 := b1.trans (b2.mono b1.size)
    go_wp2_with fail
    go_ret
    exact ⟨rfl, b3⟩
  · obtain ⟨k1, k2⟩ := And.intro (notEmpty_enc (b := X) (by omega)) (toList_enc_nil (b := X) (by omega))
    rw [show (X == 0) = false by rw [beq_eq_false_iff_ne]; exact h0, Bool.false_or]
    have HLs := Lib.hid (fun w => ceLess_any (enc X) X w hx (by omega))
    have hx1 : IsN (enc (X - 1)) (X - 1) := IsN.mk' (Nat.le_trans (blen_mono (show X - 1 ≤ n by omega)) hn.le)
    have HG := (fun w => Gcd_any (enc (X - 1)) (enc n) (X - 1) n w hx1 hn)
    obtain ⟨g, hg⟩ : ∃ g, Nat.gcd (X - 1) n = g := ⟨_, rfl⟩
    simp only [hg] at HG ⊢
    obtain ⟨V, hV⟩ : ∃ V : Bool, (!(g == 1)) = V := ⟨_, rfl⟩
    have hT : V = false → enc g = enc 1 := fun h => by rw [h] at hV; simp at hV; rw [hV]
    have hT2 : V = true → ((enc g).toList == (enc 1).toList) = false ∧ ((enc g).toList = (enc 1).toList ↔ False) := fun h => enc_diff (by rw [h] at hV; simp at hV; exact hV)
    rw [hV]
    have HE := Lib.hid HE
    have HG := Lib.hid HG
    have HB := Lib.hid hB
    have cm := hB.cm
    clear hX hxn hx hx1 hm he hA hq hq0 h2 hn hB hg h0 hV
    go_enter Tryd.func88, Tryd.ntmps88
    go_wp2_with fail
    refine (HD.out _).mono ?_; rintro e w1 ⟨rfl, b1⟩
    have hB1 := HB.out.below b1 (Nat.le_refl _)
    have cb := hB1.cb
    have cn := hB1.cn
    go_wp2_with fail
    refine (HE.out _).mono ?_; rintro e w2 ⟨rfl, b2⟩
    have b3 := b1.trans (b2.mono b1.size)
    have hB2 := hB1.below b2 (Nat.le_refl _)
    clear hB1 cb cn cm
    have cn := hB2.cn
    have co := hB2.co
    go_wp2_with fail
    go_region_held3 (fun w' => w'.cell? ⟨pn, 0, none⟩ = some (.string (enc n)) ∧ w'.cell? ⟨po, 0, none⟩ = some (.string (enc 1)) ∧ Below w.heap.size w w')
      (first | exact ⟨cn, co, b3.drew⟩ | assumption | (refine keepP ?_ bn; assumption))
      (first
        | (go_at_call 30; (with_reducible refine (HLs.out _).mono ?_); rintro e wn ⟨rfl, bn⟩)
        | (go_at_call 59; (with_reducible refine (HG.out _).mono ?_); rintro e wn ⟨rfl, bn⟩))
    all_goals
      go_split_ands
      cases V
      · rw [hT rfl] at *
        go_wp2_with fail
        go_ret
        exact ⟨rfl, by assumption⟩
      · obtain ⟨t1, t2⟩ := hT2 rfl
        go_wp2_with fail
        go_ret
        exact ⟨rfl, by assumption⟩
set_option maxHeartbeats 4000000 in
theorem ceIndex_any (v : Value) (Q : List Nat) (n a : Nat) (A : ByteArray) (pm pb pn po : Nat) (w : World) (hv : SL w v (Q.map enc)) (hQ : ∀ q ∈ Q, 2 ≤ q ∧ blen q ≤ 128) (hL : Q.length ≤ 1000000) (hn : IsN (enc n) n) (h2 : 2 ≤ n) (hA : IsN A a) (hB : PBx w pm pb pn po n A) :
    Calls Tryd.prog 106 #[v, .func (.func 88) #[] #[.pointer (some ⟨pm, 0, none⟩), .pointer (some ⟨pb, 0, none⟩), .pointer (some ⟨pn, 0, none⟩), .pointer (some ⟨po, 0, none⟩)]] w
      fun e w' => (∃ z : Int, e = .returned (.int .i64 z) ∧ ((z = -1 ∧ Q.any (badF n a) = false) ∨ (0 ≤ z ∧ Q.any (badF n a) = true))) ∧ Below w.heap.size w w' := by
  obtain ⟨ao, c, rfl, H⟩ := hv.form
  have hlen : (Q.map enc).length = Q.length := by simp
  obtain ⟨N, hN⟩ : ∃ N, Q.length = N := ⟨_, rfl⟩
  rw [hlen, hN]
  rw [hN] at hL
  have H2 := Lib.hid (fun k (hk : k < Q.length) => by have := H.out k (by simpa using hk); rw [map_enc_at hk] at this; exact this : ∀ k (hk : k < Q.length), ∃ b, ao = some ⟨b, 0, none⟩ ∧ b < w.heap.size ∧ w.cell? ⟨b, k, none⟩ = some (.string (enc Q[k])))
  have HF := Lib.hid (fun q (hq : q ∈ Q) w (hB : PBx w pm pb pn po n A) => ceProves1_any q n a A pm pb pn po w (IsN.mk' (hQ q hq).2) (by have := (hQ q hq).1; omega) hn h2 hA hB)
  have HN := Lib.hid hN
  have HB := Lib.hid hB
  clear hv H hlen hQ hN hn h2 hA hB
  go_enter Tryd.func106, Tryd.ntmps106
  go_wp2_with fail
  go_loopw [8] (fun i wr => ∃ k : Nat, k ≤ N ∧ i = .int .i64 k ∧ Hid ((Q.take k).any (badF n a) = false) ∧ Below w.heap.size w wr) (fun i _ => N - (intOf i).toNat)
  case atStart => exact ⟨0, by omega, rfl, Lib.hid (by simp), Below.refl _ _⟩
  case round =>
    obtain ⟨k, hk, rfl, hP, hBw⟩ := hrel
    by_cases hlt : k < N
    · have hkQ : k < Q.length := by rw [HN.out]; exact hlt
      obtain ⟨b, rfl, hb, hc⟩ := H2.out k hkQ
      replace hc := (hBw.cell (p := ⟨b, k, none⟩) hb).trans hc
      have HF2 := HF.out _ (List.getElem_mem hkQ) wr (HB.out.below hBw (Nat.le_refl _))
      have HT : (Q.take (k + 1)).any (badF n a) = badF n a Q[k] := by
        rw [List.take_succ_eq_append_getElem hkQ, List.any_append, hP.out]; simp
      have HS : badF n a Q[k] = true → Q.any (badF n a) = true := fun h => List.any_eq_true.2 ⟨_, List.getElem_mem hkQ, h⟩
      generalize Q[k] = f at hc HF2 HT HS
      obtain ⟨V, hV⟩ : ∃ V, badF n a f = V := ⟨_, rfl⟩
      rw [hV] at HF2 HT HS
      have HT := Lib.hid HT
      have HS := Lib.hid HS
      clear hkQ hV
      cases V
      · go_wp2_with fail
        refine HF2.mono ?_; rintro e w2 ⟨rfl, b2⟩
        have b3 := hBw.trans (b2.mono hBw.size)
        go_wp2_with fail
        exact ⟨⟨k + 1, by omega, by go_num, HT, b3⟩, by simp [intOf]; omega⟩
      · go_wp2_with fail
        refine HF2.mono ?_; rintro e w2 ⟨rfl, b2⟩
        have b3 := hBw.trans (b2.mono hBw.size)
        go_wp2_with fail
        go_ret
        exact ⟨⟨_, rfl, .inr ⟨by omega, HS.out (by simp)⟩⟩, b3⟩
    · obtain rfl : k = N := by omega
      have hE : Q.any (badF n a) = false := by
        have := hP.out
        rwa [List.take_of_length_le (by rw [HN.out]; omega)] at this
      have HE := Lib.hid hE
      clear hE
      go_wp2_with fail
      go_ret
      exact ⟨⟨_, rfl, .inl ⟨rfl, HE.out⟩⟩, hBw⟩
theorem ceContains_any (v : Value) (Q : List Nat) (n a : Nat) (A : ByteArray) (pm pb pn po : Nat) (w : World) (hv : SL w v (Q.map enc)) (hQ : ∀ q ∈ Q, 2 ≤ q ∧ blen q ≤ 128) (hL : Q.length ≤ 1000000) (hn : IsN (enc n) n) (h2 : 2 ≤ n) (hA : IsN A a) (hB : PBx w pm pb pn po n A) :
    Calls Tryd.prog 87 #[v, .func (.func 88) #[] #[.pointer (some ⟨pm, 0, none⟩), .pointer (some ⟨pb, 0, none⟩), .pointer (some ⟨pn, 0, none⟩), .pointer (some ⟨po, 0, none⟩)]] w
      fun e w' => e = .returned (.bool (Q.any (badF n a))) ∧ Below w.heap.size w w' := by
  have HI := Lib.hid (ceIndex_any v Q n a A pm pb pn po w hv hQ hL hn h2 hA hB)
  obtain ⟨V, hV⟩ : ∃ V, Q.any (badF n a) = V := ⟨_, rfl⟩
  rw [hV] at HI ⊢
  clear hv hQ hL hn h2 hA hB hV
  go_enter Tryd.func87, Tryd.ntmps87
  go_wp2_with fail
  refine HI.out.mono ?_; rintro e w2 ⟨⟨z, rfl, (⟨rfl, rfl⟩ | ⟨hz, rfl⟩)⟩, b2⟩
  · go_wp2_with fail
    go_ret
    exact ⟨rfl, b2⟩
  · go_wp2_with fail
    go_ret
    exact ⟨rfl, b2⟩
theorem put1' {W : World} {b : Nat} {cs : Array Value} {j : Nat} {v : Value} {t : TypeId} (h : W.heap[b]? = some (.cells cs t (0, 0))) : (W.setCell ⟨b, j, none⟩ v).heap[b]? = some (.cells (cs.setIfInBounds j v) t (0, 0)) := by
  obtain ⟨hlt, hk⟩ := Array.getElem?_eq_some_iff.1 h
  show (W.heap.modify b _)[b]? = _
  rw [Array.getElem?_eq_getElem (by rw [Array.size_modify]; exact hlt), Array.getElem_modify_self, hk]
  rfl
/-- a box of one cell -/
def VB (w : World) (b : Nat) (v : Value) : Prop := w.heap[b]? = some (.cells #[v] 27 (0, 0))
theorem VB.lt {w : World} {b : Nat} {v : Value} (h : VB w b v) : b < w.heap.size := (Array.getElem?_eq_some_iff.1 h).1
theorem VB.c {w : World} {b : Nat} {v : Value} (h : VB w b v) : w.cell? ⟨b, 0, none⟩ = some v := by rw [Lib.cell_of_heap h]; rfl
theorem VB.f {w : World} {b : Nat} {v : Value} (h : VB w b v) : w.frozen? ⟨b, 0, none⟩ = false := Lib.frozen_of_heap h 0
theorem VB.new (w : World) (v : Value) : VB (w.alloc (.cells #[v] 27)) w.heap.size v := heap_alloc_new w _
theorem VB.below {w w' : World} {b : Nat} {v : Value} (h : VB w b v) (hb : Below w.heap.size w w') : VB w' b v := (hb.block b h.lt).trans h
theorem VB.alloc {w : World} {b : Nat} {v : Value} (h : VB w b v) (o : Obj) : VB (w.alloc o) b v := (Below.heap_alloc w o b h.lt).trans h
theorem VB.set {w : World} {b : Nat} {v : Value} (h : VB w b v) (u : Value) : VB (w.setCell ⟨b, 0, none⟩ u) b u := put1' h
theorem VB.other {w : World} {b c : Nat} {v : Value} (h : VB w b v) (hne : c ≠ b) (u : Value) : VB (w.setCell ⟨c, 0, none⟩ u) b v := (Below.heap_setCell w ⟨c, 0, none⟩ u b (Ne.symm hne)).trans h
/-- the boxes of proves: what is laid of the last two -/
structure PS (w W : World) (s A : ByteArray) (b7 b8 : Option (Nat × Value)) : Prop where
  x3 : VB W w.heap.size (.string s)
  x4 : VB W (w.heap.size + 1) (.string A)
  x7 : ∀ q v, b7 = some (q, v) → w.heap.size + 1 < q ∧ VB W q v
  x8 : ∀ q v, b8 = some (q, v) → w.heap.size + 1 < q ∧ VB W q v
  ne : ∀ q v q' v', b7 = some (q, v) → b8 = some (q', v') → q ≠ q'
  b : Below w.heap.size w W
section
variable {w W W' : World} {s A : ByteArray} {b7 b8 : Option (Nat × Value)} {q : Nat} {v : Value}
theorem PS.c3 (h : PS w W s A b7 b8) : W.cell? ⟨w.heap.size, 0, none⟩ = some (.string s) := h.x3.c
theorem PS.c7 (h : PS w W s A (some (q, v)) b8) : W.cell? ⟨q, 0, none⟩ = some v := (h.x7 _ _ rfl).2.c
theorem PS.f7 (h : PS w W s A (some (q, v)) b8) : W.frozen? ⟨q, 0, none⟩ = false := (h.x7 _ _ rfl).2.f
theorem PS.c8 (h : PS w W s A b7 (some (q, v))) : W.cell? ⟨q, 0, none⟩ = some v := (h.x8 _ _ rfl).2.c
theorem PS.f8 (h : PS w W s A b7 (some (q, v))) : W.frozen? ⟨q, 0, none⟩ = false := (h.x8 _ _ rfl).2.f
theorem PS.below (h : PS w W s A b7 b8) (hb : Below W.heap.size W W') : PS w W' s A b7 b8 :=
  ⟨h.x3.below hb, h.x4.below hb, fun q v e => ⟨(h.x7 q v e).1, (h.x7 q v e).2.below hb⟩, fun q v e => ⟨(h.x8 q v e).1, (h.x8 q v e).2.below hb⟩, h.ne, h.b.trans (hb.mono h.b.size)⟩
theorem PS.weak (h : PS w W s A b7 b8) : PS w W s A none none := ⟨h.x3, h.x4, (fun _ _ e => by cases e), (fun _ _ e => by cases e), (fun _ _ _ _ e => by cases e), h.b⟩
theorem PS.drew (h : PS w W s A b7 b8) : PS w W.drew s A b7 b8 := ⟨h.x3, h.x4, h.x7, h.x8, h.ne, h.b.drew⟩
theorem PS.alloc7 (h : PS w W s A none b8) : PS w (W.alloc (.cells #[.string ⟨#[]⟩] 27)) s A (some (W.heap.size, .string ⟨#[]⟩)) b8 :=
  ⟨h.x3.alloc _, h.x4.alloc _, fun q v e => by cases e; exact ⟨h.x4.lt, VB.new _ _⟩, fun q v e => ⟨(h.x8 q v e).1, (h.x8 q v e).2.alloc _⟩, fun q v q' v' e e' => by cases e; have := (h.x8 q' v' e').2.lt; omega, h.b.alloc h.b.size _⟩
theorem PS.alloc8 (h : PS w W s A b7 none) : PS w (W.alloc (.cells #[.string ⟨#[]⟩] 27)) s A b7 (some (W.heap.size, .string ⟨#[]⟩)) :=
  ⟨h.x3.alloc _, h.x4.alloc _, fun q v e => ⟨(h.x7 q v e).1, (h.x7 q v e).2.alloc _⟩, fun q v e => by cases e; exact ⟨h.x4.lt, VB.new _ _⟩, fun q v q' v' e e' => by cases e'; have := (h.x7 q v e).2.lt; omega, h.b.alloc h.b.size _⟩
theorem PS.set7 (h : PS w W s A (some (q, v)) b8) (u : Value) : PS w (W.setCell ⟨q, 0, none⟩ u) s A (some (q, u)) b8 := by
  obtain ⟨h1, h2⟩ := h.x7 q v rfl
  exact ⟨h.x3.other (by omega) u, h.x4.other (by omega) u, fun q' v' e => by cases e; exact ⟨h1, h2.set u⟩, fun q' v' e => ⟨(h.x8 q' v' e).1, (h.x8 q' v' e).2.other (h.ne _ _ _ _ rfl e) u⟩, fun q' v' q2 v2 e e' => by cases e; exact h.ne _ _ _ _ rfl e', h.b.setCell (p := ⟨q, 0, none⟩) (by show w.heap.size ≤ q; omega) _⟩
theorem PS.set8 (h : PS w W s A b7 (some (q, v))) (u : Value) : PS w (W.setCell ⟨q, 0, none⟩ u) s A b7 (some (q, u)) := by
  obtain ⟨h1, h2⟩ := h.x8 q v rfl
  exact ⟨h.x3.other (by omega) u, h.x4.other (by omega) u, fun q' v' e => ⟨(h.x7 q' v' e).1, (h.x7 q' v' e).2.other (fun e2 => h.ne _ _ _ _ e rfl e2.symm) u⟩, fun q' v' e => by cases e; exact ⟨h1, h2.set u⟩, fun q' v' q2 v2 e e' => by cases e'; exact h.ne _ _ _ _ e rfl, h.b.setCell (p := ⟨q, 0, none⟩) (by show w.heap.size ≤ q; omega) _⟩
end
set_option maxHeartbeats 8000000 in
theorem ceProves_any (s A : ByteArray) (n a : Nat) (v : Value) (Q : List Nat) (w : World) (hs : IsN s n) (h2 : 2 ≤ n) (hA : IsN A a) (hv : SL w v (Q.map enc)) (hQ : ∀ q ∈ Q, 2 ≤ q ∧ blen q ≤ 128) (hL : Q.length ≤ 1000000) :
    Calls Tryd.prog 60 #[.string s, .string A, v] w fun e w' => e = .returned (.bool (provB n a Q)) ∧ Below w.heap.size w w' := by
  have HLs := Lib.hid (fun w => ceLess_any s n w hs (by omega))
  have HV := Lib.hid hv
  have hS : PS w ((w.alloc (.cells #[.string s] 27)).alloc (.cells #[.string A] 27)) s A none none :=
    ⟨(VB.new w _).alloc _, by have := VB.new (w.alloc (.cells #[.string s] 27)) (.string A); rwa [World.size_alloc] at this, (fun _ _ e => by cases e), (fun _ _ e => by cases e), (fun _ _ _ _ e => by cases e), ((Below.refl _ w).alloc (Nat.le_refl _) (.cells #[.string s] 27)).alloc (by simp) (.cells #[.string A] 27)⟩
  obtain ⟨V, hVV⟩ : ∃ V, provB n a Q = V := ⟨_, rfl⟩
  rw [hVV]
  rw [provB_eq] at hVV
  have HVV := Lib.hid hVV
  clear hv hVV
  go_enter Tryd.func60, Tryd.ntmps60
  go_wp2_with fail
  generalize World.alloc _ _ = w0 at hS ⊢
  go_cut [7, 8] from 15 (fun v7 v8 wc => ∃ q7 q8, v7 = .pointer (some ⟨q7, 0, none⟩) ∧ v8 = .pointer (some ⟨q8, 0, none⟩) ∧ PS w wc s A (some (q7, .string (enc 1))) (some (q8, .string (enc (n - 1)))))
  case first =>
    refine wp_region_held_drew (S := (fun W' => PS w W' s A none none)) (by kernel_rfl) hS.drew (fun hS0 => ?_)
    refine wpAnyH_take (i := 1) (oi := { dst := some 12, op := _, type := _, pos := _, after := _, guard := _ }) (v := .string s) rfl (by kernel_rfl) (by kernel_rfl) (by kernel_rfl) (fun _ _ _ h => h) (Or.inl ⟨by rfl, fun w' hSw => (by (try dsimp only at hSw); have f := hSw.c3; go_simp)⟩) (by assumption) ?_
    try simp only [Act.put, List.setIfInBounds_toArray, List.set_cons_zero, List.set_cons_succ]
    clear hS
    have hS := hS0
    clear hS0
    generalize w0.drew = wd at hS ⊢
    -- {{R
    refine wpAnyH_ready (rs := [0, 3, 4]) (by kernel_rfl) (by simp) ?_
    refine AllReadyH.cons rfl (fun K hK => ?_) ?_
    · rw [if_pos (by rfl)]
      go_simp
      go_at_call 46
      refine (cOf1 _).mono ?_; rintro e wn ⟨rfl, bn⟩
      have hT := hS.below bn
      try go_simp
      refine hK.out _ _ hT.weak (fun _ => ?_)
      clear hK hS
      have hS := hT
      clear hT
      try simp only [Act.put, List.setIfInBounds_toArray, List.set_cons_zero, List.set_cons_succ]
      refine wpAnyH_ready (rs := [2, 3, 4]) (by kernel_rfl) (by simp) ?_
      refine AllReadyH.cons rfl (fun K hK => ?_) ?_
      · rw [if_pos (by rfl)]
        go_simp
        go_at_call 30
        refine (HLs.out _).mono ?_; rintro e wn ⟨rfl, bn⟩
        have hT := hS.below bn
        try go_simp
        refine hK.out _ _ hT.weak (fun _ => ?_)
        clear hK hS
        have hS := hT
        clear hT
        try simp only [Act.put, List.setIfInBounds_toArray, List.set_cons_zero, List.set_cons_succ]
        refine wpAnyH_ready (rs := [3, 4]) (by kernel_rfl) (by simp) ?_
        refine AllReadyH.cons rfl (fun K hK => ?_) ?_
        · rw [if_pos (by rfl)]
          go_simp
          have hT := hS.alloc7
          refine hK.out _ _ hT.weak (fun _ => ?_)
          clear hK hS
          generalize hq : (World.heap _).size = q7 at hT ⊢
          clear hq
          generalize World.alloc _ _ = wn at hT ⊢
          have hS := hT
          clear hT
          try simp only [Act.put, List.setIfInBounds_toArray, List.set_cons_zero, List.set_cons_succ]
          refine wpAnyH_ready (rs := [4]) (by kernel_rfl) (by simp) ?_
          refine AllReadyH.cons rfl (fun K hK => ?_) ?_
          · rw [if_pos (by rfl)]
            go_simp
            have hT := hS.alloc8
            refine hK.out _ _ hT.weak (fun _ => ?_)
            clear hK hS
            generalize hq : (World.heap _).size = q8 at hT ⊢
            clear hq
            generalize World.alloc _ _ = wn at hT ⊢
            have hS := hT
            clear hT
            try simp only [Act.put, List.setIfInBounds_toArray, List.set_cons_zero, List.set_cons_succ]
            refine wpAnyH_ready (rs := [5]) (by kernel_rfl) (by simp) ?_
            refine AllReadyH.cons rfl (fun K hK => ?_) ?_
            · rw [if_pos (by rfl)]
              have f := hS.c7
              have g := hS.f7
              go_simp
              clear f g
              have hT := hS.set7 (.string (enc 1))
              refine hK.out _ _ hT.weak (fun _ => ?_)
              clear hK hS
              generalize World.setCell _ _ _ = wn at hT ⊢
              have hS := hT
              clear hT
              try simp only [Act.put, List.setIfInBounds_toArray, List.set_cons_zero, List.set_cons_succ]
              refine wpAnyH_ready (rs := [6]) (by kernel_rfl) (by simp) ?_
              refine AllReadyH.cons rfl (fun K hK => ?_) ?_
              · rw [if_pos (by rfl)]
                have f := hS.c8
                have g := hS.f8
                go_simp
                clear f g
                have hT := hS.set8 (.string (enc (n - 1)))
                refine hK.out _ _ hT.weak (fun _ => ?_)
                clear hK hS
                generalize World.setCell _ _ _ = wn at hT ⊢
                have hS := hT
                clear hT
                try simp only [Act.put, List.setIfInBounds_toArray, List.set_cons_zero, List.set_cons_succ]
                refine wpAnyH_done (by kernel_rfl) ?_ _
                go_wp2_with fail
                go_meet
                exact ⟨_, _, rfl, rfl, hS⟩
              exact AllReadyH.nil
            exact AllReadyH.nil
          exact AllReadyH.nil
        refine AllReadyH.cons rfl (fun K hK => ?_) ?_
        · rw [if_pos (by rfl)]
          go_simp
          have hT := hS.alloc8
          refine hK.out _ _ hT.weak (fun _ => ?_)
          clear hK hS
          generalize hq : (World.heap _).size = q8 at hT ⊢
          clear hq
          generalize World.alloc _ _ = wn at hT ⊢
          have hS := hT
          clear hT
          try simp only [Act.put, List.setIfInBounds_toArray, List.set_cons_zero, List.set_cons_succ]
          refine wpAnyH_ready (rs := [3]) (by kernel_rfl) (by simp) ?_
          refine AllReadyH.cons rfl (fun K hK => ?_) ?_
          · rw [if_pos (by rfl)]
            go_simp
            have hT := hS.alloc7
            refine hK.out _ _ hT.weak (fun _ => ?_)
            clear hK hS
            generalize hq : (World.heap _).size = q7 at hT ⊢
            clear hq
            generalize World.alloc _ _ = wn at hT ⊢
            have hS := hT
            clear hT
            try simp only [Act.put, List.setIfInBounds_toArray, List.set_cons_zero, List.set_cons_succ]
            refine wpAnyH_ready (rs := [5]) (by kernel_rfl) (by simp) ?_
            refine AllReadyH.cons rfl (fun K hK => ?_) ?_
            · rw [if_pos (by rfl)]
              have f := hS.c7
              have g := hS.f7
              go_simp
              clear f g
              have hT := hS.set7 (.string (enc 1))
              refine hK.out _ _ hT.weak (fun _ => ?_)
              clear hK hS
              generalize World.setCell _ _ _ = wn at hT ⊢
              have hS := hT
              clear hT
              try simp only [Act.put, List.setIfInBounds_toArray, List.set_cons_zero, List.set_cons_succ]
              refine wpAnyH_ready (rs := [6]) (by kernel_rfl) (by simp) ?_
              refine AllReadyH.cons rfl (fun K hK => ?_) ?_
              · rw [if_pos (by rfl)]
                have f := hS.c8
                have g := hS.f8
                go_simp
                clear f g
                have hT := hS.set8 (.string (enc (n - 1)))
                refine hK.out _ _ hT.weak (fun _ => ?_)
                clear hK hS
                generalize World.setCell _ _ _ = wn at hT ⊢
                have hS := hT
                clear hT
                try simp only [Act.put, List.setIfInBounds_toArray, List.set_cons_zero, List.set_cons_succ]
                refine wpAnyH_done (by kernel_rfl) ?_ _
                go_wp2_with fail
                go_meet
                exact ⟨_, _, rfl, rfl, hS⟩
              exact AllReadyH.nil
            exact AllReadyH.nil
          exact AllReadyH.nil
        exact AllReadyH.nil
      refine AllReadyH.cons rfl (fun K hK => ?_) ?_
      · rw [if_pos (by rfl)]
        go_simp
        have hT := hS.alloc7
        refine hK.out _ _ hT.weak (fun _ => ?_)
        clear hK hS
        generalize hq : (World.heap _).size = q7 at hT ⊢
        clear hq
        generalize World.alloc _ _ = wn at hT ⊢
        have hS := hT
        clear hT
        try simp only [Act.put, List.setIfInBounds_toArray, List.set_cons_zero, List.set_cons_succ]
        refine wpAnyH_ready (rs := [2, 4]) (by kernel_rfl) (by simp) ?_
        refine AllReadyH.cons rfl (fun K hK => ?_) ?_
        · rw [if_pos (by rfl)]
          go_simp
          go_at_call 30
          refine (HLs.out _).mono ?_; rintro e wn ⟨rfl, bn⟩
          have hT := hS.below bn
          try go_simp
          refine hK.out _ _ hT.weak (fun _ => ?_)
          clear hK hS
          have hS := hT
          clear hT
          try simp only [Act.put, List.setIfInBounds_toArray, List.set_cons_zero, List.set_cons_succ]
          refine wpAnyH_ready (rs := [4]) (by kernel_rfl) (by simp) ?_
          refine AllReadyH.cons rfl (fun K hK => ?_) ?_
          · rw [if_pos (by rfl)]
            go_simp
            have hT := hS.alloc8
            refine hK.out _ _ hT.weak (fun _ => ?_)
            clear hK hS
            generalize hq : (World.heap _).size = q8 at hT ⊢
            clear hq
            generalize World.alloc _ _ = wn at hT ⊢
            have hS := hT
            clear hT
            try simp only [Act.put, List.setIfInBounds_toArray, List.set_cons_zero, List.set_cons_succ]
            refine wpAnyH_ready (rs := [5]) (by kernel_rfl) (by simp) ?_
            refine AllReadyH.cons rfl (fun K hK => ?_) ?_
            · rw [if_pos (by rfl)]
              have f := hS.c7
              have g := hS.f7
              go_simp
              clear f g
              have hT := hS.set7 (.string (enc 1))
              refine hK.out _ _ hT.weak (fun _ => ?_)
              clear hK hS
              generalize World.setCell _ _ _ = wn at hT ⊢
              have hS := hT
              clear hT
              try simp only [Act.put, List.setIfInBounds_toArray, List.set_cons_zero, List.set_cons_succ]
              refine wpAnyH_ready (rs := [6]) (by kernel_rfl) (by simp) ?_
              refine AllReadyH.cons rfl (fun K hK => ?_) ?_
              · rw [if_pos (by rfl)]
                have f := hS.c8
                have g := hS.f8
                go_simp
                clear f g
                have hT := hS.set8 (.string (enc (n - 1)))
                refine hK.out _ _ hT.weak (fun _ => ?_)
                clear hK hS
                generalize World.setCell _ _ _ = wn at hT ⊢
                have hS := hT
                clear hT
                try simp only [Act.put, List.setIfInBounds_toArray, List.set_cons_zero, List.set_cons_succ]
                refine wpAnyH_done (by kernel_rfl) ?_ _
                go_wp2_with fail
                go_meet
                exact ⟨_, _, rfl, rfl, hS⟩
              exact AllReadyH.nil
            exact AllReadyH.nil
          exact AllReadyH.nil
        refine AllReadyH.cons rfl (fun K hK => ?_) ?_
        · rw [if_pos (by rfl)]
          go_simp
          have hT := hS.alloc8
          refine hK.out _ _ hT.weak (fun _ => ?_)
          clear hK hS
          generalize hq : (World.heap _).size = q8 at hT ⊢
          clear hq
          generalize World.alloc _ _ = wn at hT ⊢
          have hS := hT
          clear hT
          try simp only [Act.put, List.setIfInBounds_toArray, List.set_cons_zero, List.set_cons_succ]
          refine wpAnyH_ready (rs := [2]) (by kernel_rfl) (by simp) ?_
          refine AllReadyH.cons rfl (fun K hK => ?_) ?_
          · rw [if_pos (by rfl)]
            go_simp
            go_at_call 30
            refine (HLs.out _).mono ?_; rintro e wn ⟨rfl, bn⟩
            have hT := hS.below bn
            try go_simp
            refine hK.out _ _ hT.weak (fun _ => ?_)
            clear hK hS
            have hS := hT
            clear hT
            try simp only [Act.put, List.setIfInBounds_toArray, List.set_cons_zero, List.set_cons_succ]
            refine wpAnyH_ready (rs := [5]) (by kernel_rfl) (by simp) ?_
            refine AllReadyH.cons rfl (fun K hK => ?_) ?_
            · rw [if_pos (by rfl)]
              have f := hS.c7
              have g := hS.f7
              go_simp
              clear f g
              have hT := hS.set7 (.string (enc 1))
              refine hK.out _ _ hT.weak (fun _ => ?_)
              clear hK hS
              generalize World.setCell _ _ _ = wn at hT ⊢
              have hS := hT
              clear hT
              try simp only [Act.put, List.setIfInBounds_toArray, List.set_cons_zero, List.set_cons_succ]
              refine wpAnyH_ready (rs := [6]) (by kernel_rfl) (by simp) ?_
              refine AllReadyH.cons rfl (fun K hK => ?_) ?_
              · rw [if_pos (by rfl)]
                have f := hS.c8
                have g := hS.f8
                go_simp
                clear f g
                have hT := hS.set8 (.string (enc (n - 1)))
                refine hK.out _ _ hT.weak (fun _ => ?_)
                clear hK hS
                generalize World.setCell _ _ _ = wn at hT ⊢
                have hS := hT
                clear hT
                try simp only [Act.put, List.setIfInBounds_toArray, List.set_cons_zero, List.set_cons_succ]
                refine wpAnyH_done (by kernel_rfl) ?_ _
                go_wp2_with fail
                go_meet
                exact ⟨_, _, rfl, rfl, hS⟩
              exact AllReadyH.nil
            exact AllReadyH.nil
          exact AllReadyH.nil
        exact AllReadyH.nil
      refine AllReadyH.cons rfl (fun K hK => ?_) ?_
      · rw [if_pos (by rfl)]
        go_simp
        have hT := hS.alloc8
        refine hK.out _ _ hT.weak (fun _ => ?_)
        clear hK hS
        generalize hq : (World.heap _).size = q8 at hT ⊢
        clear hq
        generalize World.alloc _ _ = wn at hT ⊢
        have hS := hT
        clear hT
        try simp only [Act.put, List.setIfInBounds_toArray, List.set_cons_zero, List.set_cons_succ]
        refine wpAnyH_ready (rs := [2, 3]) (by kernel_rfl) (by simp) ?_
        refine AllReadyH.cons rfl (fun K hK => ?_) ?_
        · rw [if_pos (by rfl)]
          go_simp
          go_at_call 30
          refine (HLs.out _).mono ?_; rintro e wn ⟨rfl, bn⟩
          have hT := hS.below bn
          try go_simp
          refine hK.out _ _ hT.weak (fun _ => ?_)
          clear hK hS
          have hS := hT
          clear hT
          try simp only [Act.put, List.setIfInBounds_toArray, List.set_cons_zero, List.set_cons_succ]
          refine wpAnyH_ready (rs := [3]) (by kernel_rfl) (by simp) ?_
          refine AllReadyH.cons rfl (fun K hK => ?_) ?_
          · rw [if_pos (by rfl)]
            go_simp
            have hT := hS.alloc7
            refine hK.out _ _ hT.weak (fun _ => ?_)
            clear hK hS
            generalize hq : (World.heap _).size = q7 at hT ⊢
            clear hq
            generalize World.alloc _ _ = wn at hT ⊢
            have hS := hT
            clear hT
            try simp only [Act.put, List.setIfInBounds_toArray, List.set_cons_zero, List.set_cons_succ]
            refine wpAnyH_ready (rs := [5]) (by kernel_rfl) (by simp) ?_
            refine AllReadyH.cons rfl (fun K hK => ?_) ?_
            · rw [if_pos (by rfl)]
              have f := hS.c7
              have g := hS.f7
              go_simp
              clear f g
              have hT := hS.set7 (.string (enc 1))
              refine hK.out _ _ hT.weak (fun _ => ?_)
              clear hK hS
              generalize World.setCell _ _ _ = wn at hT ⊢
              have hS := hT
              clear hT
              try simp only [Act.put, List.setIfInBounds_toArray, List.set_cons_zero, List.set_cons_succ]
              refine wpAnyH_ready (rs := [6]) (by kernel_rfl) (by simp) ?_
              refine AllReadyH.cons rfl (fun K hK => ?_) ?_
              · rw [if_pos (by rfl)]
                have f := hS.c8
                have g := hS.f8
                go_simp
                clear f g
                have hT := hS.set8 (.string (enc (n - 1)))
                refine hK.out _ _ hT.weak (fun _ => ?_)
                clear hK hS
                generalize World.setCell _ _ _ = wn at hT ⊢
                have hS := hT
                clear hT
                try simp only [Act.put, List.setIfInBounds_toArray, List.set_cons_zero, List.set_cons_succ]
                refine wpAnyH_done (by kernel_rfl) ?_ _
                go_wp2_with fail
                go_meet
                exact ⟨_, _, rfl, rfl, hS⟩
              exact AllReadyH.nil
            exact AllReadyH.nil
          exact AllReadyH.nil
        refine AllReadyH.cons rfl (fun K hK => ?_) ?_
        · rw [if_pos (by rfl)]
          go_simp
          have hT := hS.alloc7
          refine hK.out _ _ hT.weak (fun _ => ?_)
          clear hK hS
          generalize hq : (World.heap _).size = q7 at hT ⊢
          clear hq
          generalize World.alloc _ _ = wn at hT ⊢
          have hS := hT
          clear hT
          try simp only [Act.put, List.setIfInBounds_toArray, List.set_cons_zero, List.set_cons_succ]
          refine wpAnyH_ready (rs := [2]) (by kernel_rfl) (by simp) ?_
          refine AllReadyH.cons rfl (fun K hK => ?_) ?_
          · rw [if_pos (by rfl)]
            go_simp
            go_at_call 30
            refine (HLs.out _).mono ?_; rintro e wn ⟨rfl, bn⟩
            have hT := hS.below bn
            try go_simp
            refine hK.out _ _ hT.weak (fun _ => ?_)
            clear hK hS
            have hS := hT
            clear hT
            try simp only [Act.put, List.setIfInBounds_toArray, List.set_cons_zero, List.set_cons_succ]
            refine wpAnyH_ready (rs := [5]) (by kernel_rfl) (by simp) ?_
            refine AllReadyH.cons rfl (fun K hK => ?_) ?_
            · rw [if_pos (by rfl)]
              have f := hS.c7
              have g := hS.f7
              go_simp
              clear f g
              have hT := hS.set7 (.string (enc 1))
              refine hK.out _ _ hT.weak (fun _ => ?_)
              clear hK hS
              generalize World.setCell _ _ _ = wn at hT ⊢
              have hS := hT
              clear hT
              try simp only [Act.put, List.setIfInBounds_toArray, List.set_cons_zero, List.set_cons_succ]
              refine wpAnyH_ready (rs := [6]) (by kernel_rfl) (by simp) ?_
              refine AllReadyH.cons rfl (fun K hK => ?_) ?_
              · rw [if_pos (by rfl)]
                have f := hS.c8
                have g := hS.f8
                go_simp
                clear f g
                have hT := hS.set8 (.string (enc (n - 1)))
                refine hK.out _ _ hT.weak (fun _ => ?_)
                clear hK hS
                generalize World.setCell _ _ _ = wn at hT ⊢
                have hS := hT
                clear hT
                try simp only [Act.put, List.setIfInBounds_toArray, List.set_cons_zero, List.set_cons_succ]
                refine wpAnyH_done (by kernel_rfl) ?_ _
                go_wp2_with fail
                go_meet
                exact ⟨_, _, rfl, rfl, hS⟩
              exact AllReadyH.nil
            exact AllReadyH.nil
          exact AllReadyH.nil
        exact AllReadyH.nil
      exact AllReadyH.nil
    refine AllReadyH.cons rfl (fun K hK => ?_) ?_
    · rw [if_pos (by rfl)]
      go_simp
      have hT := hS.alloc7
      refine hK.out _ _ hT.weak (fun _ => ?_)
      clear hK hS
      generalize hq : (World.heap _).size = q7 at hT ⊢
      clear hq
      generalize World.alloc _ _ = wn at hT ⊢
      have hS := hT
      clear hT
      try simp only [Act.put, List.setIfInBounds_toArray, List.set_cons_zero, List.set_cons_succ]
      refine wpAnyH_ready (rs := [0, 4]) (by kernel_rfl) (by simp) ?_
      refine AllReadyH.cons rfl (fun K hK => ?_) ?_
      · rw [if_pos (by rfl)]
        go_simp
        go_at_call 46
        refine (cOf1 _).mono ?_; rintro e wn ⟨rfl, bn⟩
        have hT := hS.below bn
        try go_simp
        refine hK.out _ _ hT.weak (fun _ => ?_)
        clear hK hS
        have hS := hT
        clear hT
        try simp only [Act.put, List.setIfInBounds_toArray, List.set_cons_zero, List.set_cons_succ]
        refine wpAnyH_ready (rs := [2, 4]) (by kernel_rfl) (by simp) ?_
        refine AllReadyH.cons rfl (fun K hK => ?_) ?_
        · rw [if_pos (by rfl)]
          go_simp
          go_at_call 30
          refine (HLs.out _).mono ?_; rintro e wn ⟨rfl, bn⟩
          have hT := hS.below bn
          try go_simp
          refine hK.out _ _ hT.weak (fun _ => ?_)
          clear hK hS
          have hS := hT
          clear hT
          try simp only [Act.put, List.setIfInBounds_toArray, List.set_cons_zero, List.set_cons_succ]
          refine wpAnyH_ready (rs := [4]) (by kernel_rfl) (by simp) ?_
          refine AllReadyH.cons rfl (fun K hK => ?_) ?_
          · rw [if_pos (by rfl)]
            go_simp
            have hT := hS.alloc8
            refine hK.out _ _ hT.weak (fun _ => ?_)
            clear hK hS
            generalize hq : (World.heap _).size = q8 at hT ⊢
            clear hq
            generalize World.alloc _ _ = wn at hT ⊢
            have hS := hT
            clear hT
            try simp only [Act.put, List.setIfInBounds_toArray, List.set_cons_zero, List.set_cons_succ]
            refine wpAnyH_ready (rs := [5]) (by kernel_rfl) (by simp) ?_
            refine AllReadyH.cons rfl (fun K hK => ?_) ?_
            · rw [if_pos (by rfl)]
              have f := hS.c7
              have g := hS.f7
              go_simp
              clear f g
              have hT := hS.set7 (.string (enc 1))
              refine hK.out _ _ hT.weak (fun _ => ?_)
              clear hK hS
              generalize World.setCell _ _ _ = wn at hT ⊢
              have hS := hT
              clear hT
              try simp only [Act.put, List.setIfInBounds_toArray, List.set_cons_zero, List.set_cons_succ]
              refine wpAnyH_ready (rs := [6]) (by kernel_rfl) (by simp) ?_
              refine AllReadyH.cons rfl (fun K hK => ?_) ?_
              · rw [if_pos (by rfl)]
                have f := hS.c8
                have g := hS.f8
                go_simp
                clear f g
                have hT := hS.set8 (.string (enc (n - 1)))
                refine hK.out _ _ hT.weak (fun _ => ?_)
                clear hK hS
                generalize World.setCell _ _ _ = wn at hT ⊢
                have hS := hT
                clear hT
                try simp only [Act.put, List.setIfInBounds_toArray, List.set_cons_zero, List.set_cons_succ]
                refine wpAnyH_done (by kernel_rfl) ?_ _
                go_wp2_with fail
                go_meet
                exact ⟨_, _, rfl, rfl, hS⟩
              exact AllReadyH.nil
            exact AllReadyH.nil
          exact AllReadyH.nil
        refine AllReadyH.cons rfl (fun K hK => ?_) ?_
        · rw [if_pos (by rfl)]
          go_simp
          have hT := hS.alloc8
          refine hK.out _ _ hT.weak (fun _ => ?_)
          clear hK hS
          generalize hq : (World.heap _).size = q8 at hT ⊢
          clear hq
          generalize World.alloc _ _ = wn at hT ⊢
          have hS := hT
          clear hT
          try simp only [Act.put, List.setIfInBounds_toArray, List.set_cons_zero, List.set_cons_succ]
          refine wpAnyH_ready (rs := [2]) (by kernel_rfl) (by simp) ?_
          refine AllReadyH.cons rfl (fun K hK => ?_) ?_
          · rw [if_pos (by rfl)]
            go_simp
            go_at_call 30
            refine (HLs.out _).mono ?_; rintro e wn ⟨rfl, bn⟩
            have hT := hS.below bn
            try go_simp
            refine hK.out _ _ hT.weak (fun _ => ?_)
            clear hK hS
            have hS := hT
            clear hT
            try simp only [Act.put, List.setIfInBounds_toArray, List.set_cons_zero, List.set_cons_succ]
            refine wpAnyH_ready (rs := [5]) (by kernel_rfl) (by simp) ?_
            refine AllReadyH.cons rfl (fun K hK => ?_) ?_
            · rw [if_pos (by rfl)]
              have f := hS.c7
              have g := hS.f7
              go_simp
              clear f g
              have hT := hS.set7 (.string (enc 1))
              refine hK.out _ _ hT.weak (fun _ => ?_)
              clear hK hS
              generalize World.setCell _ _ _ = wn at hT ⊢
              have hS := hT
              clear hT
              try simp only [Act.put, List.setIfInBounds_toArray, List.set_cons_zero, List.set_cons_succ]
              refine wpAnyH_ready (rs := [6]) (by kernel_rfl) (by simp) ?_
              refine AllReadyH.cons rfl (fun K hK => ?_) ?_
              · rw [if_pos (by rfl)]
                have f := hS.c8
                have g := hS.f8
                go_simp
                clear f g
                have hT := hS.set8 (.string (enc (n - 1)))
                refine hK.out _ _ hT.weak (fun _ => ?_)
                clear hK hS
                generalize World.setCell _ _ _ = wn at hT ⊢
                have hS := hT
                clear hT
                try simp only [Act.put, List.setIfInBounds_toArray, List.set_cons_zero, List.set_cons_succ]
                refine wpAnyH_done (by kernel_rfl) ?_ _
                go_wp2_with fail
                go_meet
                exact ⟨_, _, rfl, rfl, hS⟩
              exact AllReadyH.nil
            exact AllReadyH.nil
          exact AllReadyH.nil
        exact AllReadyH.nil
      refine AllReadyH.cons rfl (fun K hK => ?_) ?_
      · rw [if_pos (by rfl)]
        go_simp
        have hT := hS.alloc8
        refine hK.out _ _ hT.weak (fun _ => ?_)
        clear hK hS
        generalize hq : (World.heap _).size = q8 at hT ⊢
        clear hq
        generalize World.alloc _ _ = wn at hT ⊢
        have hS := hT
        clear hT
        try simp only [Act.put, List.setIfInBounds_toArray, List.set_cons_zero, List.set_cons_succ]
        refine wpAnyH_ready (rs := [0]) (by kernel_rfl) (by simp) ?_
        refine AllReadyH.cons rfl (fun K hK => ?_) ?_
        · rw [if_pos (by rfl)]
          go_simp
          go_at_call 46
          refine (cOf1 _).mono ?_; rintro e wn ⟨rfl, bn⟩
          have hT := hS.below bn
          try go_simp
          refine hK.out _ _ hT.weak (fun _ => ?_)
          clear hK hS
          have hS := hT
          clear hT
          try simp only [Act.put, List.setIfInBounds_toArray, List.set_cons_zero, List.set_cons_succ]
          refine wpAnyH_ready (rs := [2]) (by kernel_rfl) (by simp) ?_
          refine AllReadyH.cons rfl (fun K hK => ?_) ?_
          · rw [if_pos (by rfl)]
            go_simp
            go_at_call 30
            refine (HLs.out _).mono ?_; rintro e wn ⟨rfl, bn⟩
            have hT := hS.below bn
            try go_simp
            refine hK.out _ _ hT.weak (fun _ => ?_)
            clear hK hS
            have hS := hT
            clear hT
            try simp only [Act.put, List.setIfInBounds_toArray, List.set_cons_zero, List.set_cons_succ]
            refine wpAnyH_ready (rs := [5]) (by kernel_rfl) (by simp) ?_
            refine AllReadyH.cons rfl (fun K hK => ?_) ?_
            · rw [if_pos (by rfl)]
              have f := hS.c7
              have g := hS.f7
              go_simp
              clear f g
              have hT := hS.set7 (.string (enc 1))
              refine hK.out _ _ hT.weak (fun _ => ?_)
              clear hK hS
              generalize World.setCell _ _ _ = wn at hT ⊢
              have hS := hT
              clear hT
              try simp only [Act.put, List.setIfInBounds_toArray, List.set_cons_zero, List.set_cons_succ]
              refine wpAnyH_ready (rs := [6]) (by kernel_rfl) (by simp) ?_
              refine AllReadyH.cons rfl (fun K hK => ?_) ?_
              · rw [if_pos (by rfl)]
                have f := hS.c8
                have g := hS.f8
                go_simp
                clear f g
                have hT := hS.set8 (.string (enc (n - 1)))
                refine hK.out _ _ hT.weak (fun _ => ?_)
                clear hK hS
                generalize World.setCell _ _ _ = wn at hT ⊢
                have hS := hT
                clear hT
                try simp only [Act.put, List.setIfInBounds_toArray, List.set_cons_zero, List.set_cons_succ]
                refine wpAnyH_done (by kernel_rfl) ?_ _
                go_wp2_with fail
                go_meet
                exact ⟨_, _, rfl, rfl, hS⟩
              exact AllReadyH.nil
            exact AllReadyH.nil
          exact AllReadyH.nil
        exact AllReadyH.nil
      exact AllReadyH.nil
    refine AllReadyH.cons rfl (fun K hK => ?_) ?_
    · rw [if_pos (by rfl)]
      go_simp
      have hT := hS.alloc8
      refine hK.out _ _ hT.weak (fun _ => ?_)
      clear hK hS
      generalize hq : (World.heap _).size = q8 at hT ⊢
      clear hq
      generalize World.alloc _ _ = wn at hT ⊢
      have hS := hT
      clear hT
      try simp only [Act.put, List.setIfInBounds_toArray, List.set_cons_zero, List.set_cons_succ]
      refine wpAnyH_ready (rs := [0, 3]) (by kernel_rfl) (by simp) ?_
      refine AllReadyH.cons rfl (fun K hK => ?_) ?_
      · rw [if_pos (by rfl)]
        go_simp
        go_at_call 46
        refine (cOf1 _).mono ?_; rintro e wn ⟨rfl, bn⟩
        have hT := hS.below bn
        try go_simp
        refine hK.out _ _ hT.weak (fun _ => ?_)
        clear hK hS
        have hS := hT
        clear hT
        try simp only [Act.put, List.setIfInBounds_toArray, List.set_cons_zero, List.set_cons_succ]
        refine wpAnyH_ready (rs := [2, 3]) (by kernel_rfl) (by simp) ?_
        refine AllReadyH.cons rfl (fun K hK => ?_) ?_
        · rw [if_pos (by rfl)]
          go_simp
          go_at_call 30
          refine (HLs.out _).mono ?_; rintro e wn ⟨rfl, bn⟩
          have hT := hS.below bn
          try go_simp
          refine hK.out _ _ hT.weak (fun _ => ?_)
          clear hK hS
          have hS := hT
          clear hT
          try simp only [Act.put, List.setIfInBounds_toArray, List.set_cons_zero, List.set_cons_succ]
          refine wpAnyH_ready (rs := [3]) (by kernel_rfl) (by simp) ?_
          refine AllReadyH.cons rfl (fun K hK => ?_) ?_
          · rw [if_pos (by rfl)]
            go_simp
            have hT := hS.alloc7
            refine hK.out _ _ hT.weak (fun _ => ?_)
            clear hK hS
            generalize hq : (World.heap _).size = q7 at hT ⊢
            clear hq
            generalize World.alloc _ _ = wn at hT ⊢
            have hS := hT
            clear hT
            try simp only [Act.put, List.setIfInBounds_toArray, List.set_cons_zero, List.set_cons_succ]
            refine wpAnyH_ready (rs := [5]) (by kernel_rfl) (by simp) ?_
            refine AllReadyH.cons rfl (fun K hK => ?_) ?_
            · rw [if_pos (by rfl)]
              have f := hS.c7
              have g := hS.f7
              go_simp
              clear f g
              have hT := hS.set7 (.string (enc 1))
              refine hK.out _ _ hT.weak (fun _ => ?_)
              clear hK hS
              generalize World.setCell _ _ _ = wn at hT ⊢
              have hS := hT
              clear hT
              try simp only [Act.put, List.setIfInBounds_toArray, List.set_cons_zero, List.set_cons_succ]
              refine wpAnyH_ready (rs := [6]) (by kernel_rfl) (by simp) ?_
              refine AllReadyH.cons rfl (fun K hK => ?_) ?_
              · rw [if_pos (by rfl)]
                have f := hS.c8
                have g := hS.f8
                go_simp
                clear f g
                have hT := hS.set8 (.string (enc (n - 1)))
                refine hK.out _ _ hT.weak (fun _ => ?_)
                clear hK hS
                generalize World.setCell _ _ _ = wn at hT ⊢
                have hS := hT
                clear hT
                try simp only [Act.put, List.setIfInBounds_toArray, List.set_cons_zero, List.set_cons_succ]
                refine wpAnyH_done (by kernel_rfl) ?_ _
                go_wp2_with fail
                go_meet
                exact ⟨_, _, rfl, rfl, hS⟩
              exact AllReadyH.nil
            exact AllReadyH.nil
          exact AllReadyH.nil
        refine AllReadyH.cons rfl (fun K hK => ?_) ?_
        · rw [if_pos (by rfl)]
          go_simp
          have hT := hS.alloc7
          refine hK.out _ _ hT.weak (fun _ => ?_)
          clear hK hS
          generalize hq : (World.heap _).size = q7 at hT ⊢
          clear hq
          generalize World.alloc _ _ = wn at hT ⊢
          have hS := hT
          clear hT
          try simp only [Act.put, List.setIfInBounds_toArray, List.set_cons_zero, List.set_cons_succ]
          refine wpAnyH_ready (rs := [2]) (by kernel_rfl) (by simp) ?_
          refine AllReadyH.cons rfl (fun K hK => ?_) ?_
          · rw [if_pos (by rfl)]
            go_simp
            go_at_call 30
            refine (HLs.out _).mono ?_; rintro e wn ⟨rfl, bn⟩
            have hT := hS.below bn
            try go_simp
            refine hK.out _ _ hT.weak (fun _ => ?_)
            clear hK hS
            have hS := hT
            clear hT
            try simp only [Act.put, List.setIfInBounds_toArray, List.set_cons_zero, List.set_cons_succ]
            refine wpAnyH_ready (rs := [5]) (by kernel_rfl) (by simp) ?_
            refine AllReadyH.cons rfl (fun K hK => ?_) ?_
            · rw [if_pos (by rfl)]
              have f := hS.c7
              have g := hS.f7
              go_simp
              clear f g
              have hT := hS.set7 (.string (enc 1))
              refine hK.out _ _ hT.weak (fun _ => ?_)
              clear hK hS
              generalize World.setCell _ _ _ = wn at hT ⊢
              have hS := hT
              clear hT
              try simp only [Act.put, List.setIfInBounds_toArray, List.set_cons_zero, List.set_cons_succ]
              refine wpAnyH_ready (rs := [6]) (by kernel_rfl) (by simp) ?_
              refine AllReadyH.cons rfl (fun K hK => ?_) ?_
              · rw [if_pos (by rfl)]
                have f := hS.c8
                have g := hS.f8
                go_simp
                clear f g
                have hT := hS.set8 (.string (enc (n - 1)))
                refine hK.out _ _ hT.weak (fun _ => ?_)
                clear hK hS
                generalize World.setCell _ _ _ = wn at hT ⊢
                have hS := hT
                clear hT
                try simp only [Act.put, List.setIfInBounds_toArray, List.set_cons_zero, List.set_cons_succ]
                refine wpAnyH_done (by kernel_rfl) ?_ _
                go_wp2_with fail
                go_meet
                exact ⟨_, _, rfl, rfl, hS⟩
              exact AllReadyH.nil
            exact AllReadyH.nil
          exact AllReadyH.nil
        exact AllReadyH.nil
      refine AllReadyH.cons rfl (fun K hK => ?_) ?_
      · rw [if_pos (by rfl)]
        go_simp
        have hT := hS.alloc7
        refine hK.out _ _ hT.weak (fun _ => ?_)
        clear hK hS
        generalize hq : (World.heap _).size = q7 at hT ⊢
        clear hq
        generalize World.alloc _ _ = wn at hT ⊢
        have hS := hT
        clear hT
        try simp only [Act.put, List.setIfInBounds_toArray, List.set_cons_zero, List.set_cons_succ]
        refine wpAnyH_ready (rs := [0]) (by kernel_rfl) (by simp) ?_
        refine AllReadyH.cons rfl (fun K hK => ?_) ?_
        · rw [if_pos (by rfl)]
          go_simp
          go_at_call 46
          refine (cOf1 _).mono ?_; rintro e wn ⟨rfl, bn⟩
          have hT := hS.below bn
          try go_simp
          refine hK.out _ _ hT.weak (fun _ => ?_)
          clear hK hS
          have hS := hT
          clear hT
          try simp only [Act.put, List.setIfInBounds_toArray, List.set_cons_zero, List.set_cons_succ]
          refine wpAnyH_ready (rs := [2]) (by kernel_rfl) (by simp) ?_
          refine AllReadyH.cons rfl (fun K hK => ?_) ?_
          · rw [if_pos (by rfl)]
            go_simp
            go_at_call 30
            refine (HLs.out _).mono ?_; rintro e wn ⟨rfl, bn⟩
            have hT := hS.below bn
            try go_simp
            refine hK.out _ _ hT.weak (fun _ => ?_)
            clear hK hS
            have hS := hT
            clear hT
            try simp only [Act.put, List.setIfInBounds_toArray, List.set_cons_zero, List.set_cons_succ]
            refine wpAnyH_ready (rs := [5]) (by kernel_rfl) (by simp) ?_
            refine AllReadyH.cons rfl (fun K hK => ?_) ?_
            · rw [if_pos (by rfl)]
              have f := hS.c7
              have g := hS.f7
              go_simp
              clear f g
              have hT := hS.set7 (.string (enc 1))
              refine hK.out _ _ hT.weak (fun _ => ?_)
              clear hK hS
              generalize World.setCell _ _ _ = wn at hT ⊢
              have hS := hT
              clear hT
              try simp only [Act.put, List.setIfInBounds_toArray, List.set_cons_zero, List.set_cons_succ]
              refine wpAnyH_ready (rs := [6]) (by kernel_rfl) (by simp) ?_
              refine AllReadyH.cons rfl (fun K hK => ?_) ?_
              · rw [if_pos (by rfl)]
                have f := hS.c8
                have g := hS.f8
                go_simp
                clear f g
                have hT := hS.set8 (.string (enc (n - 1)))
                refine hK.out _ _ hT.weak (fun _ => ?_)
                clear hK hS
                generalize World.setCell _ _ _ = wn at hT ⊢
                have hS := hT
                clear hT
                try simp only [Act.put, List.setIfInBounds_toArray, List.set_cons_zero, List.set_cons_succ]
                refine wpAnyH_done (by kernel_rfl) ?_ _
                go_wp2_with fail
                go_meet
                exact ⟨_, _, rfl, rfl, hS⟩
              exact AllReadyH.nil
            exact AllReadyH.nil
          exact AllReadyH.nil
        exact AllReadyH.nil
      exact AllReadyH.nil
    exact AllReadyH.nil
    -- }}R
  case rest =>
    clear hS
    obtain ⟨q7, q8, rfl, rfl, hS⟩ := hcut
    have hm : IsN (enc (n - 1)) (n - 1) := IsN.mk' (Nat.le_trans (blen_mono (by omega)) hs.le)
    have hsn := hs.eq
    subst hsn
    have HE := (fun w => Exp_any A (enc (n - 1)) (enc n) a (n - 1) n w hA hm hs (by omega))
    have hP : PBx wc q8 (w.heap.size + 1) w.heap.size q7 n A := ⟨hS.c8, hS.x4.c, hS.x3.c, hS.c7⟩
    have hB := hS.b
    have d1 := hP.cb
    have d2 := hP.cm
    have d3 := hP.cn
    obtain ⟨X, hX⟩ : ∃ X, a ^ (n - 1) % n = X := ⟨_, rfl⟩
    simp only [hX] at HE
    have hVV := HVV.out
    rw [hX] at hVV
    have HE := Lib.hid HE
    have HP := Lib.hid hP
    obtain ⟨U, hU⟩ : ∃ U, Q.any (badF n a) = U := ⟨_, rfl⟩
    rw [hU] at hVV
    have HSL := Lib.hid (HV.out.below hB)
    clear hS hX hP hm HVV
    by_cases h1 : X = 1
    · subst h1
      rw [show ((1 : Nat) == 1) = true from rfl, Bool.true_and] at hVV
      subst hVV
      have HC := Lib.hid (fun W hv hB => ceContains_any v Q n a A q8 (w.heap.size + 1) w.heap.size q7 W hv hQ hL hs h2 hA hB)
      clear hs h2 hA hQ hL
      go_wp2_with fail
      refine (HE.out _).mono ?_; rintro e w2 ⟨rfl, b2⟩
      have hP2 := HP.out.below b2 (Nat.le_refl _)
      have co := hP2.co
      have hB2 := hB.trans (b2.mono hB.size)
      have hsl := HSL.out.below b2
      go_wp2_with fail
      refine (HC.out _ hsl hP2).mono ?_; rintro e w3 ⟨rfl, b3⟩
      have hB3 := hB2.trans (b3.mono hB2.size)
      rw [hU]
      go_wp2_with fail
      go_ret
      exact ⟨rfl, hB3⟩
    · rw [show (X == 1) = false by rw [beq_eq_false_iff_ne]; exact h1, Bool.false_and] at hVV
      subst hVV
      obtain ⟨t1, t2⟩ := enc_diff (a := X) (b := 1) h1
      clear hs h2 hA hQ hL
      go_wp2_with fail
      refine (HE.out _).mono ?_; rintro e w2 ⟨rfl, b2⟩
      have hP2 := HP.out.below b2 (Nat.le_refl _)
      have co := hP2.co
      have hB2 := hB.trans (b2.mono hB.size)
      go_wp2_with fail
      go_ret
      exact ⟨rfl, hB2⟩
end Go.Proofs.YtjminjliomffaaaDoor
