import Derived.Test.YtdlbnioidfhhcaaGreatPwC
import Derived.Deep.RegionHeld3
/- dominolaw13: Few and the examples. -/
namespace Go.Proofs.YtdlbnioidfhhcaaGreat
open Go.RowKit Num
set_option maxRecDepth 20000
set_option linter.unusedVariables false
theorem is_two (w : World) (n1 n2 : Bool) (t1 t2 : ByteArray) : IS (w.alloc (.cells #[.bool n1, .string t1, .bool n2, .string t2] 50)) (some ⟨w.heap.size, 0, none⟩) [(n1, t1), (n2, t2)] := by
  intro k hk
  match k, hk with
  | 0, _ => exact ⟨_, _, rfl, by rw [Lib.cell_of_heap (heap_alloc_new w _)]; rfl, by rw [Lib.cell_of_heap (heap_alloc_new w _)]; rfl⟩
  | 1, _ => exact ⟨_, _, rfl, by rw [Lib.cell_of_heap (heap_alloc_new w _)]; rfl, by rw [Lib.cell_of_heap (heap_alloc_new w _)]; rfl⟩
end Go.Proofs.YtdlbnioidfhhcaaGreat

/- dominolaw13: the examples. -/
namespace Go.Proofs.YtdlbnioidfhhcaaGreat
open Go.RowKit Num
set_option maxRecDepth 20000
set_option linter.unusedVariables false
theorem prod2 (M O x y : ByteArray) (n1 n2 : Bool) (t1 t2 : ByteArray) (w0 : World) (p q : Nat) (hp : w0.heap.size = p) (hq : q = p + 1) :
    Calls Tryz.prog 35 #[.agg #[.string M, .string O], .slice (some ⟨p, 0, none⟩) 2 2, .slice (some ⟨q, 0, none⟩) 2 2] ((w0.alloc (.cells #[.string x, .string y] 22)).alloc (.cells #[.bool n1, .string t1, .bool n2, .string t2] 50))
      fun e w' => e = .returned (.tuple #[.string (gpS M O [x, y] [(n1, t1), (n2, t2)]), .int .i64 (gpE M O [x, y] [(n1, t1), (n2, t2)])]) ∧ Below p w0 w' := by
  subst hp
  subst hq
  have hN := (ns_two w0 x y).below ((Below.refl _ _).alloc (Nat.le_refl _) (.cells #[.bool n1, .string t1, .bool n2, .string t2] 50)) (Nat.le_refl _)
  have hI := is_two (w0.alloc (.cells #[.string x, .string y] 22)) n1 n2 t1 t2
  rw [World.size_alloc] at hI
  have hb := ((Below.refl w0.heap.size w0).alloc (Nat.le_refl _) (.cells #[.string x, .string y] 22)).alloc (by simp) (.cells #[.bool n1, .string t1, .bool n2, .string t2] 50)
  exact (gProduct_any M O _ _ 2 2 2 2 [x, y] [(n1, t1), (n2, t2)] _ hN hI rfl rfl (by omega) (by omega)).mono fun e w' ⟨h1, h2⟩ => ⟨h1, hb.trans (h2.mono (by simp; omega))⟩
theorem k_p1 : gpS ⟨#[23]⟩ ⟨#[11]⟩ [⟨#[4]⟩, ⟨#[3]⟩] [(false, ⟨#[2]⟩), (true, ⟨#[1]⟩)] = ⟨#[13]⟩ := by decide +kernel
theorem k_e1 : gpE ⟨#[23]⟩ ⟨#[11]⟩ [⟨#[4]⟩, ⟨#[3]⟩] [(false, ⟨#[2]⟩), (true, ⟨#[1]⟩)] = 0 := by decide +kernel
theorem k_p2 : gpS ⟨#[23]⟩ ⟨#[11]⟩ [⟨#[2]⟩] [(true, ⟨#[3]⟩)] = ⟨#[3]⟩ := by decide +kernel
theorem k_e2 : gpE ⟨#[23]⟩ ⟨#[11]⟩ [⟨#[2]⟩] [(true, ⟨#[3]⟩)] = 0 := by decide +kernel
theorem k_p3 : gpS ⟨#[77]⟩ ⟨#[]⟩ [⟨#[5]⟩, ⟨#[2]⟩] [(false, ⟨#[2]⟩), (false, ⟨#[3]⟩)] = ⟨#[46]⟩ := by decide +kernel
theorem k_e3 : gpE ⟨#[77]⟩ ⟨#[]⟩ [⟨#[5]⟩, ⟨#[2]⟩] [(false, ⟨#[2]⟩), (false, ⟨#[3]⟩)] = 0 := by decide +kernel
theorem k_nt : ntE ⟨#[77]⟩ ⟨#[]⟩ ⟨#[5]⟩ 8 = 0 := by decide +kernel
theorem k_nv : nv ⟨#[77]⟩ = 77 ∧ nv ⟨#[5]⟩ = 5 := by decide +kernel
theorem k_t : enc (5 ^ 2 % 77) = ⟨#[25]⟩ := by decide +kernel
theorem k_h5 : hasB ⟨#[77]⟩ ⟨#[]⟩ ⟨#[5]⟩ = true := by decide +kernel
theorem k_h7 : hasB ⟨#[77]⟩ ⟨#[]⟩ ⟨#[7]⟩ = false := by decide +kernel
theorem k_g8 : gE ⟨#[8]⟩ ⟨#[]⟩ = 13 := by decide +kernel
theorem isN77 : IsN ⟨#[77]⟩ 77 := ⟨by decide +kernel, by decide +kernel⟩
theorem isNII : IsN ⟨#[2]⟩ 2 := ⟨by decide +kernel, by decide +kernel⟩
end Go.Proofs.YtdlbnioidfhhcaaGreat

/- dominolaw13: the law Looks. -/
namespace Go.Proofs.YtdlbnioidfhhcaaGreat
open Go.RowKit Num
set_option maxRecDepth 20000
set_option linter.unusedVariables false
theorem cell_keepB {w w' : World} {a : Addr} {v : Value} (h : w.cell? a = some v) (hb : Below w.heap.size w w') : w'.cell? a = some v := (hb.cell (p := a) (World.block_lt_of_cell? w a h)).trans h
theorem keep3 {w1 w2 w3 : World} {a1 a2 a3 : Addr} {v1 v2 v3 : Value} (h : w2.cell? a1 = some v1 ∧ w2.cell? a2 = some v2 ∧ w2.cell? a3 = some v3 ∧ Below w1.heap.size w1 w2) (b : Below w2.heap.size w2 w3) :
    w3.cell? a1 = some v1 ∧ w3.cell? a2 = some v2 ∧ w3.cell? a3 = some v3 ∧ Below w1.heap.size w1 w3 :=
  ⟨cell_keepB h.1 b, cell_keepB h.2.1 b, cell_keepB h.2.2.1 b, h.2.2.2.trans (b.mono h.2.2.2.size)⟩
theorem keep4 {w1 w2 w3 : World} {a1 a2 a3 a4 : Addr} {v1 v2 v3 v4 : Value} (h : w2.cell? a1 = some v1 ∧ w2.cell? a2 = some v2 ∧ w2.cell? a3 = some v3 ∧ w2.cell? a4 = some v4 ∧ Below w1.heap.size w1 w2) (b : Below w2.heap.size w2 w3) :
    w3.cell? a1 = some v1 ∧ w3.cell? a2 = some v2 ∧ w3.cell? a3 = some v3 ∧ w3.cell? a4 = some v4 ∧ Below w1.heap.size w1 w3 :=
  ⟨cell_keepB h.1 b, cell_keepB h.2.1 b, cell_keepB h.2.2.1 b, cell_keepB h.2.2.2.1 b, h.2.2.2.2.trans (b.mono h.2.2.2.2.size)⟩
theorem hasB_ok {M O s : ByteArray} (h : hasB M O s = true) : gE M O = 0 ∧ validB s = true ∧ elN (nv M) (nv O) (nv s) = true := by
  unfold hasB at h
  rw [Bool.and_eq_true, Bool.and_eq_true, decide_eq_true_eq] at h
  exact ⟨h.1, h.2.1, h.2.2⟩
theorem gpE_one {M O s t : ByteArray} {ng : Bool} (h : hasB M O s = true) (ht : ivB (ng, t) = true) : gpE M O [s] [(ng, t)] = 0 := by
  obtain ⟨h1, h2, h3⟩ := hasB_ok h
  unfold gpE
  rw [decide_eq_true (show [s].length = [(ng, t)].length from rfl), ck_last ⟨by simp [h2], by simp [ht]⟩ h1]
  simp [h3]
theorem gpS_one {M O s t : ByteArray} {ng : Bool} (h : hasB M O s = true) (ht : ivB (ng, t) = true) : gpS M O [s] [(ng, t)] = enc (sb (nv M) (nv s) ng ^ nv t % nv M) := by
  rw [gpS, gpE_one h ht, mo_zero]
  simp [prs, pr]
end Go.Proofs.YtdlbnioidfhhcaaGreat
