/- Plain facts: powers with signed exponents add. -/
import Derived.Test.YtmbenndmkacjpaaPwJ
import Derived.Test.YtmbenndmkacjpaaIntB
import Derived.Deep.RegionHeld3
namespace Go.Proofs.Ytmbenndmkacjpaa
open Go.RowKit Num
set_option maxRecDepth 20000
set_option linter.unusedVariables false
namespace Num
/-- a power with a signed exponent -/
def zp (m x : Nat) (z : Int) : Nat := sb m x (zb z) ^ z.natAbs % m
theorem uv_cancel {m u v : Nat} (h : u * v % m = 1 % m) (b c : Nat) : u ^ (c + b) * v ^ b % m = u ^ c % m := by
  have e : u ^ (c + b) * v ^ b = u ^ c * (u * v) ^ b := by rw [Nat.pow_add, Nat.mul_pow, Nat.mul_assoc]
  have e2 : (u * v) ^ b % m = 1 % m := by rw [Nat.pow_mod, h, ← Nat.pow_mod, Nat.one_pow]
  rw [e, Nat.mul_mod, e2, ← Nat.mul_mod, Nat.mul_one]
theorem zp_add {m x : Nat} (hm : 0 < m) (h : Nat.gcd x m = 1) (y z : Int) : zp m x (y + z) = zp m x y * zp m x z % m := by
  have hi := (invm_ok hm h).2
  have hi' : invm x m * x % m = 1 % m := by rw [Nat.mul_comm]; exact hi
  have P : ∀ (a : Nat), zp m x (a : Int) = x ^ a % m := fun a => by
    have e : zb (a : Int) = false := decide_eq_false (by omega)
    unfold zp
    rw [e]; rfl
  have N : ∀ (a : Nat), 0 < a → zp m x (-(a : Int)) = invm x m ^ a % m := fun a ha => by
    have e : zb (-(a : Int)) = true := decide_eq_true (by omega)
    unfold zp
    rw [e, Int.natAbs_neg]; rfl
  have N' : ∀ (a : Nat), zp m x (-(a : Int)) = invm x m ^ a % m := fun a => by
    rcases Nat.eq_zero_or_pos a with h0 | h0
    · subst h0; rw [show -((0 : Nat) : Int) = ((0 : Nat) : Int) from rfl, P]; simp
    · exact N a h0
  have cs : ∀ z : Int, (∃ a : Nat, z = (a : Int)) ∨ ∃ a : Nat, z = -(a : Int) := fun z => by
    rcases Int.natAbs_eq z with e | e
    · exact .inl ⟨_, e⟩
    · exact .inr ⟨_, e⟩
  rcases cs y with ⟨a, rfl⟩ | ⟨a, rfl⟩ <;> rcases cs z with ⟨b, rfl⟩ | ⟨b, rfl⟩
  · rw [← Int.natCast_add, P, P, P, ← Nat.mul_mod, ← Nat.pow_add]
  · rcases Nat.lt_or_ge a b with h1 | h1
    · obtain ⟨c, rfl⟩ : ∃ c, b = c + a := ⟨b - a, by omega⟩
      rw [show (a : Int) + -((c + a : Nat) : Int) = -(c : Int) by omega, N', P, N', ← Nat.mul_mod, Nat.mul_comm, uv_cancel hi']
    · obtain ⟨c, rfl⟩ : ∃ c, a = c + b := ⟨a - b, by omega⟩
      rw [show ((c + b : Nat) : Int) + -(b : Int) = (c : Int) by omega, P, P, N', ← Nat.mul_mod, uv_cancel hi]
  · rcases Nat.lt_or_ge b a with h1 | h1
    · obtain ⟨c, rfl⟩ : ∃ c, a = c + b := ⟨a - b, by omega⟩
      rw [show -((c + b : Nat) : Int) + (b : Int) = -(c : Int) by omega, N', N', P, ← Nat.mul_mod, uv_cancel hi']
    · obtain ⟨c, rfl⟩ : ∃ c, b = c + a := ⟨b - a, by omega⟩
      rw [show -(a : Int) + ((c + a : Nat) : Int) = (c : Int) by omega, P, P, N', ← Nat.mul_mod, Nat.mul_comm, uv_cancel hi]
  · rw [show -(a : Int) + -(b : Int) = -((a + b : Nat) : Int) by omega, N', N', N', ← Nat.mul_mod, ← Nat.pow_add]
theorem zp_neg {m x : Nat} (hm : 2 ≤ m) (h : Nat.gcd x m = 1) (z : Int) : zp m x (-z) * zp m x z % m = 1 := by
  rw [← zp_add (by omega) h, show -z + z = (0 : Int) by omega]
  show sb m x false ^ 0 % m = 1
  rw [Nat.pow_zero, Nat.mod_eq_of_lt (by omega)]
theorem el_zp {m o x : Nat} (h : 2 ≤ m) (hx : elN m o x = true) (z : Int) : elN m o (zp m x z) = true := el_pow h (el_sb h hx _) _
end Num
theorem iv_z {g : Bool} {E : ByteArray} (h : ivB (g, E) = true) : ∃ z : Int, g = zb z ∧ E = zs z ∧ ZOk z ∧ z.natAbs = nv E := by
  unfold ivB at h
  rw [Bool.and_eq_true, Bool.not_eq_true'] at h
  obtain ⟨h1, h2⟩ := h
  have hE := isN_of_valid h1
  cases g
  · refine ⟨(nv E : Int), (decide_eq_false (by omega)).symm, ?_, hE.le, by omega⟩
    show E = enc _
    rw [show ((nv E : Nat) : Int).natAbs = nv E by omega]; exact hE.eq
  · have h0 : nv E ≠ 0 := fun e => by
      have : E = ⟨#[]⟩ := by rw [e] at hE; exact empty_of hE
      subst this
      revert h2; decide +kernel
    refine ⟨-(nv E : Int), (decide_eq_true (by omega)).symm, ?_, ?_, by omega⟩
    · show E = enc _
      rw [show (-((nv E : Nat) : Int)).natAbs = nv E by omega]; exact hE.eq
    · show blen _ ≤ 128
      rw [show (-((nv E : Nat) : Int)).natAbs = nv E by omega]; exact hE.le
theorem zok_add {y z : Int} (h1 : blen y.natAbs ≤ 20) (h2 : blen z.natAbs ≤ 20) : ZOk (y + z) := by
  show blen _ ≤ 128
  rw [blen_le_iff] at h1 h2 ⊢
  have : (256 : Nat) ^ 20 + 256 ^ 20 ≤ 256 ^ 128 := by decide +kernel
  omega
theorem gExp_z {M O s : ByteArray} (hh : hasB M O s = true) (z : Int) (hz : ZOk z) (w : World) :
    Calls Try.prog 12 #[.agg #[.string M, .string O], .string s, .agg #[.bool (zb z), .string (zs z)]] w fun e w' => e = .returned (.tuple #[.string (enc (zp (nv M) (nv s) z)), .int .i64 0]) ∧ Below w.heap.size w w' := by
  have hiv : ivB (zb z, zs z) = true := by unfold ivB; rw [hz.isN.valid, zb_not]; rfl
  have h := gExp_any M O s (zb z) (zs z) w
  rw [gpE_one hh hiv, gpS_one hh hiv, hz.isN.nv] at h
  exact h
theorem gProd_z {M O s : ByteArray} (hh : hasB M O s = true) (y z : Int) (hy : ZOk y) (hz : ZOk z) : gpE M O [s, s] [(zb y, zs y), (zb z, zs z)] = 0 ∧ gpS M O [s, s] [(zb y, zs y), (zb z, zs z)] = enc (zp (nv M) (nv s) (y + z)) := by
  obtain ⟨h1, h2, h3⟩ := hasB_ok hh
  obtain ⟨hM, _, hm2, _⟩ := gE_ok h1
  have iy : ivB (zb y, zs y) = true := by unfold ivB; rw [hy.isN.valid, zb_not]; rfl
  have iz : ivB (zb z, zs z) = true := by unfold ivB; rw [hz.isN.valid, zb_not]; rfl
  have h0 : gpE M O [s, s] [(zb y, zs y), (zb z, zs z)] = 0 := by
    unfold gpE
    rw [decide_eq_true (show [s, s].length = [(zb y, zs y), (zb z, zs z)].length from rfl), ck_last ⟨by simp [h2], by simp [iy, iz]⟩ h1]
    simp [h3]
  refine ⟨h0, ?_⟩
  rw [gpS, h0, mo_zero, zp_add (by omega) (el_unit h3)]
  simp only [prs, List.zipWith_cons_cons, List.zipWith_nil_left, pr, Nat.mul_one, hy.isN.nv, hz.isN.nv]
  rw [Nat.mul_mod]
  rfl
/-- a pair of integers -/
def DX (W : World) (b : Nat) (g0 : Bool) (E0 : ByteArray) (g1 : Bool) (E1 : ByteArray) : Prop := W.heap[b]? = some (.cells #[.bool g0, .string E0, .bool g1, .string E1] 47 (0, 0))
section
variable {W W' : World} {b : Nat} {g0 g1 : Bool} {E0 E1 : ByteArray}
theorem DX.lt (h : DX W b g0 E0 g1 E1) : b < W.heap.size := (Array.getElem?_eq_some_iff.1 h).1
theorem DX.c0 (h : DX W b g0 E0 g1 E1) : W.cell? ⟨b, 0, none⟩ = some (.bool g0) := by rw [Lib.cell_of_heap h]; rfl
theorem DX.c1 (h : DX W b g0 E0 g1 E1) : W.cell? ⟨b, 1, none⟩ = some (.string E0) := by rw [Lib.cell_of_heap h]; rfl
theorem DX.c2 (h : DX W b g0 E0 g1 E1) : W.cell? ⟨b, 2, none⟩ = some (.bool g1) := by rw [Lib.cell_of_heap h]; rfl
theorem DX.c3 (h : DX W b g0 E0 g1 E1) : W.cell? ⟨b, 3, none⟩ = some (.string E1) := by rw [Lib.cell_of_heap h]; rfl
theorem DX.below {K : Nat} (h : DX W b g0 E0 g1 E1) (hb : Below K W W') (hB : b < K) : DX W' b g0 E0 g1 E1 := (hb.block b hB).trans h
theorem DX.is (h : DX W b g0 E0 g1 E1) : IS W (some ⟨b, 0, none⟩) [(g0, E0), (g1, E1)] := by
  intro k hk
  match k, hk with
  | 0, _ => exact ⟨_, _, rfl, h.c0, h.c1⟩
  | 1, _ => exact ⟨_, _, rfl, h.c2, h.c3⟩
end
theorem keep6 {w1 w2 w3 : World} {p q : Nat} {M O : ByteArray} {g0 g1 : Bool} {E0 E1 : ByteArray} (h : w2.cell? ⟨p, 0, none⟩ = some (.string M) ∧ w2.cell? ⟨p, 1, none⟩ = some (.string O) ∧ w2.cell? ⟨q, 0, none⟩ = some (.bool g0) ∧ w2.cell? ⟨q, 1, none⟩ = some (.string E0) ∧ w2.cell? ⟨q, 2, none⟩ = some (.bool g1) ∧ w2.cell? ⟨q, 3, none⟩ = some (.string E1) ∧ Below w1.heap.size w1 w2) (b : Below w2.heap.size w2 w3) :
    w3.cell? ⟨p, 0, none⟩ = some (.string M) ∧ w3.cell? ⟨p, 1, none⟩ = some (.string O) ∧ w3.cell? ⟨q, 0, none⟩ = some (.bool g0) ∧ w3.cell? ⟨q, 1, none⟩ = some (.string E0) ∧ w3.cell? ⟨q, 2, none⟩ = some (.bool g1) ∧ w3.cell? ⟨q, 3, none⟩ = some (.string E1) ∧ Below w1.heap.size w1 w3 :=
  ⟨cell_keepB h.1 b, cell_keepB h.2.1 b, cell_keepB h.2.2.1 b, cell_keepB h.2.2.2.1 b, cell_keepB h.2.2.2.2.1 b, cell_keepB h.2.2.2.2.2.1 b, h.2.2.2.2.2.2.trans (b.mono h.2.2.2.2.2.2.size)⟩
theorem blwA (w : World) (o : Obj) : Below w.heap.size w (w.alloc o) := (Below.refl _ _).alloc (Nat.le_refl _) _
set_option maxHeartbeats 16000000 in
theorem adds_walk (M O s : ByteArray) (g0 : Bool) (E0 : ByteArray) (g1 : Bool) (E1 : ByteArray) (w : World) (hs : s.size ≤ maxLen) (hE0 : E0.size ≤ maxLen) (hE1 : E1.size ≤ maxLen) :
    Calls Try.prog 5 #[.agg #[.string M, .string O], .string s, .agg #[.bool g0, .string E0, .bool g1, .string E1]] w fun e w' => e = .returned (.bool true) ∧ Below w.heap.size w w' := by
  have hG := (GB.new w M O).alloc (.cells #[.bool g0, .string E0, .bool g1, .string E1] 47)
  have hD : DX ((w.alloc (.cells #[.string M, .string O] 24)).alloc (.cells #[.bool g0, .string E0, .bool g1, .string E1] 47)) (w.heap.size + 1) g0 E0 g1 E1 := by
    have h := heap_alloc_new (w.alloc (.cells #[.string M, .string O] 24)) (.cells #[.bool g0, .string E0, .bool g1, .string E1] 47)
    rw [World.size_alloc] at h
    exact h
  have hb := ((Below.refl w.heap.size w).alloc (Nat.le_refl _) (.cells #[.string M, .string O] 24)).alloc (by simp) (.cells #[.bool g0, .string E0, .bool g1, .string E1] 47)
  have HF := Lib.hid (fun w ao bo (a : NS w ao [s]) (b : IS w bo [(g0, E0), (g1, E1)]) => few13_any M O ao bo 1 2 1 2 [s] [(g0, E0), (g1, E1)] w a b rfl rfl (by unfold maxLen; omega) (by unfold maxLen; omega) (by simpa using hs) (by simp; exact ⟨hE0, hE1⟩))
  clear hs hE0 hE1
  go_enter Try.func5, Try.ntmps5
  go_wp2_with fail
  generalize World.alloc (World.alloc w _) _ = w1 at hG hD hb ⊢
  have c0 := hG.c0
  have c1 := hG.c1
  have d0 := hD.c0
  have d1 := hD.c1
  have d2 := hD.c2
  have d3 := hD.c3
  have hNd : NS ((w1.alloc (.cells #[.string s] 22)).drew) (some ⟨w1.heap.size, 0, none⟩) [s] := ns_one w1 s
  have hId : IS ((w1.alloc (.cells #[.string s] 22)).drew) (some ⟨w.heap.size + 1, 0, none⟩) [(g0, E0), (g1, E1)] := (hD.is).below (blwA w1 (.cells #[.string s] 22)).drew (Nat.le_refl _)
  have HFD := Lib.hid (HF.out _ _ _ hNd hId)
  clear hNd hId HF
  have HV0 : Hid (∀ w, Calls Try.prog 17 #[.agg #[.bool g0, .string E0]] w fun e w' => e = .returned (.bool (ivB (g0, E0))) ∧ Below w.heap.size w w') := fun w => ivalid_any g0 E0 w
  have HV1 : Hid (∀ w, Calls Try.prog 17 #[.agg #[.bool g1, .string E1]] w fun e w' => e = .returned (.bool (ivB (g1, E1))) ∧ Below w.heap.size w w') := fun w => ivalid_any g1 E1 w
  have HH := Lib.hid (fun w => gHas_any M O s w)
  cases hf : few13 M O [s] [(g0, E0), (g1, E1)]
  · rw [hf] at HFD
    clear hf HV0 HV1 HH
    refine wp_region_held_drew (S := (fun w' => w'.cell? ⟨w.heap.size, 0, none⟩ = some (.string M) ∧ w'.cell? ⟨w.heap.size, 1, none⟩ = some (.string O) ∧ w'.cell? ⟨w.heap.size + 1, 0, none⟩ = some (.bool g0) ∧ w'.cell? ⟨w.heap.size + 1, 1, none⟩ = some (.string E0) ∧ w'.cell? ⟨w.heap.size + 1, 2, none⟩ = some (.bool g1) ∧ w'.cell? ⟨w.heap.size + 1, 3, none⟩ = some (.string E1) ∧ Below w1.heap.size w1 w')) (by kernel_rfl) ⟨c0, c1, d0, d1, d2, d3, (Below.refl _ w1).drew⟩ (fun hS0 => ?_)
    refine wpAnyH_take (i := 0) (oi := { dst := some 19, op := _, type := _, pos := _, after := _, guard := _ }) (v := .agg #[.string M, .string O]) rfl (by kernel_rfl) (by kernel_rfl) (by kernel_rfl) (fun _ _ _ h => h) (Or.inl ⟨by rfl, fun w' hSw => (by (try dsimp only at hSw); go_simp)⟩) (by assumption) ?_
    try simp only [Act.put, List.setIfInBounds_toArray, List.set_cons_zero, List.set_cons_succ]
    refine wpAnyH_take (i := 1) (oi := { dst := some 20, op := _, type := _, pos := _, after := _, guard := _ }) (v := .string s) rfl (by kernel_rfl) (by kernel_rfl) (by kernel_rfl) (fun _ _ _ h => h) (Or.inl ⟨by rfl, fun w' hSw => (by (try dsimp only at hSw); go_simp)⟩) (by assumption) ?_
    try simp only [Act.put, List.setIfInBounds_toArray, List.set_cons_zero, List.set_cons_succ]
    refine wpAnyH_take (i := 3) (oi := { dst := some 22, op := _, type := _, pos := _, after := _, guard := _ }) (v := .slice (some ⟨w.heap.size + 1, 0, none⟩) 2 2) rfl (by kernel_rfl) (by kernel_rfl) (by kernel_rfl) (fun _ _ _ h => h) (Or.inl ⟨by rfl, fun w' hSw => (by (try dsimp only at hSw); go_simp)⟩) (by assumption) ?_
    try simp only [Act.put, List.setIfInBounds_toArray, List.set_cons_zero, List.set_cons_succ]
    refine wpAnyH_ready (rs := [2]) (by kernel_rfl) (by simp) ?_
    refine AllReadyH.cons rfl (fun K hK => ?_) AllReadyH.nil
    rw [if_pos (by rfl)]
    go_simp
    refine hK.out _ _ (keep6 ⟨c0, c1, d0, d1, d2, d3, Below.refl _ w1⟩ (blwA w1 _).drew) (fun hS1 => ?_)
    clear hS0 hK
    try simp only [Act.put, List.setIfInBounds_toArray, List.set_cons_zero, List.set_cons_succ]
    refine wpAnyH_ready (rs := [4]) (by kernel_rfl) (by simp) ?_
    refine AllReadyH.cons rfl (fun K hK => ?_) AllReadyH.nil
    rw [if_pos (by rfl)]
    go_simp
    go_at_call 14
    refine (HFD.out).mono ?_; rintro e w2 ⟨rfl, bn⟩
    try go_simp
    refine hK.out _ _ (keep6 hS1 bn) (fun hS2 => ?_)
    clear bn hK hS1
    try simp only [Act.put, List.setIfInBounds_toArray, List.set_cons_zero, List.set_cons_succ]
    refine wpAnyH_take (i := 5) (oi := { dst := some 24, op := _, type := _, pos := _, after := _, guard := _ }) (v := .bool true) rfl (by kernel_rfl) (by kernel_rfl) (by kernel_rfl) (fun _ _ _ h => h) (Or.inl ⟨by rfl, fun w' hSw => (by (try dsimp only at hSw); go_simp)⟩) (by assumption) ?_
    try simp only [Act.put, List.setIfInBounds_toArray, List.set_cons_zero, List.set_cons_succ]
    refine wpAnyH_take (i := 6) (oi := { dst := some 25, op := _, type := _, pos := _, after := _, guard := _ }) (v := .bool true) rfl (by kernel_rfl) (by kernel_rfl) (by kernel_rfl) (fun _ _ _ h => h) (Or.inl ⟨by rfl, fun w' hSw => (by (try dsimp only at hSw); go_simp)⟩) (by assumption) ?_
    try simp only [Act.put, List.setIfInBounds_toArray, List.set_cons_zero, List.set_cons_succ]
    refine wpAnyH_take (i := 7) (oi := { dst := some 26, op := _, type := _, pos := _, after := _, guard := _ }) (v := undef) rfl (by kernel_rfl) (by kernel_rfl) (by kernel_rfl) (fun _ _ _ h => h) (Or.inr ⟨by kernel_rfl, rfl⟩) (by assumption) ?_
    try simp only [Act.put, List.setIfInBounds_toArray, List.set_cons_zero, List.set_cons_succ]
    refine wpAnyH_take (i := 8) (oi := { dst := some 27, op := _, type := _, pos := _, after := _, guard := _ }) (v := undef) rfl (by kernel_rfl) (by kernel_rfl) (by kernel_rfl) (fun _ _ _ h => h) (Or.inr ⟨by kernel_rfl, rfl⟩) (by assumption) ?_
    try simp only [Act.put, List.setIfInBounds_toArray, List.set_cons_zero, List.set_cons_succ]
    refine wpAnyH_take (i := 9) (oi := { dst := some 28, op := _, type := _, pos := _, after := _, guard := _ }) (v := undef) rfl (by kernel_rfl) (by kernel_rfl) (by kernel_rfl) (fun _ _ _ h => h) (Or.inr ⟨by kernel_rfl, rfl⟩) (by assumption) ?_
    try simp only [Act.put, List.setIfInBounds_toArray, List.set_cons_zero, List.set_cons_succ]
    refine wpAnyH_take (i := 10) (oi := { dst := some 29, op := _, type := _, pos := _, after := _, guard := _ }) (v := undef) rfl (by kernel_rfl) (by kernel_rfl) (by kernel_rfl) (fun _ _ _ h => h) (Or.inr ⟨by kernel_rfl, rfl⟩) (by assumption) ?_
    try simp only [Act.put, List.setIfInBounds_toArray, List.set_cons_zero, List.set_cons_succ]
    refine wpAnyH_take (i := 11) (oi := { dst := some 30, op := _, type := _, pos := _, after := _, guard := _ }) (v := .bool true) rfl (by kernel_rfl) (by kernel_rfl) (by kernel_rfl) (fun _ _ _ h => h) (Or.inl ⟨by rfl, fun w' hSw => (by (try dsimp only at hSw); go_simp)⟩) (by assumption) ?_
    try simp only [Act.put, List.setIfInBounds_toArray, List.set_cons_zero, List.set_cons_succ]
    refine wpAnyH_take (i := 12) (oi := { dst := some 31, op := _, type := _, pos := _, after := _, guard := _ }) (v := .bool true) rfl (by kernel_rfl) (by kernel_rfl) (by kernel_rfl) (fun _ _ _ h => h) (Or.inl ⟨by rfl, fun w' hSw => (by (try dsimp only at hSw); go_simp)⟩) (by assumption) ?_
    try simp only [Act.put, List.setIfInBounds_toArray, List.set_cons_zero, List.set_cons_succ]
    refine wpAnyH_take (i := 13) (oi := { dst := some 32, op := _, type := _, pos := _, after := _, guard := _ }) (v := undef) rfl (by kernel_rfl) (by kernel_rfl) (by kernel_rfl) (fun _ _ _ h => h) (Or.inr ⟨by kernel_rfl, rfl⟩) (by assumption) ?_
    try simp only [Act.put, List.setIfInBounds_toArray, List.set_cons_zero, List.set_cons_succ]
    refine wpAnyH_take (i := 14) (oi := { dst := some 33, op := _, type := _, pos := _, after := _, guard := _ }) (v := undef) rfl (by kernel_rfl) (by kernel_rfl) (by kernel_rfl) (fun _ _ _ h => h) (Or.inr ⟨by kernel_rfl, rfl⟩) (by assumption) ?_
    try simp only [Act.put, List.setIfInBounds_toArray, List.set_cons_zero, List.set_cons_succ]
    refine wpAnyH_take (i := 15) (oi := { dst := some 34, op := _, type := _, pos := _, after := _, guard := _ }) (v := undef) rfl (by kernel_rfl) (by kernel_rfl) (by kernel_rfl) (fun _ _ _ h => h) (Or.inr ⟨by kernel_rfl, rfl⟩) (by assumption) ?_
    try simp only [Act.put, List.setIfInBounds_toArray, List.set_cons_zero, List.set_cons_succ]
    refine wpAnyH_take (i := 16) (oi := { dst := some 35, op := _, type := _, pos := _, after := _, guard := _ }) (v := undef) rfl (by kernel_rfl) (by kernel_rfl) (by kernel_rfl) (fun _ _ _ h => h) (Or.inr ⟨by kernel_rfl, rfl⟩) (by assumption) ?_
    try simp only [Act.put, List.setIfInBounds_toArray, List.set_cons_zero, List.set_cons_succ]
    refine wpAnyH_take (i := 17) (oi := { dst := some 36, op := _, type := _, pos := _, after := _, guard := _ }) (v := .bool true) rfl (by kernel_rfl) (by kernel_rfl) (by kernel_rfl) (fun _ _ _ h => h) (Or.inl ⟨by rfl, fun w' hSw => (by (try dsimp only at hSw); go_simp)⟩) (by assumption) ?_
    try simp only [Act.put, List.setIfInBounds_toArray, List.set_cons_zero, List.set_cons_succ]
    refine wpAnyH_take (i := 18) (oi := { dst := some 37, op := _, type := _, pos := _, after := _, guard := _ }) (v := .bool true) rfl (by kernel_rfl) (by kernel_rfl) (by kernel_rfl) (fun _ _ _ h => h) (Or.inl ⟨by rfl, fun w' hSw => (by (try dsimp only at hSw); go_simp)⟩) (by assumption) ?_
    try simp only [Act.put, List.setIfInBounds_toArray, List.set_cons_zero, List.set_cons_succ]
    refine wpAnyH_take (i := 19) (oi := { dst := some 38, op := _, type := _, pos := _, after := _, guard := _ }) (v := undef) rfl (by kernel_rfl) (by kernel_rfl) (by kernel_rfl) (fun _ _ _ h => h) (Or.inr ⟨by kernel_rfl, rfl⟩) (by assumption) ?_
    try simp only [Act.put, List.setIfInBounds_toArray, List.set_cons_zero, List.set_cons_succ]
    refine wpAnyH_take (i := 20) (oi := { dst := some 39, op := _, type := _, pos := _, after := _, guard := _ }) (v := undef) rfl (by kernel_rfl) (by kernel_rfl) (by kernel_rfl) (fun _ _ _ h => h) (Or.inr ⟨by kernel_rfl, rfl⟩) (by assumption) ?_
    try simp only [Act.put, List.setIfInBounds_toArray, List.set_cons_zero, List.set_cons_succ]
    refine wpAnyH_take (i := 21) (oi := { dst := some 40, op := _, type := _, pos := _, after := _, guard := _ }) (v := undef) rfl (by kernel_rfl) (by kernel_rfl) (by kernel_rfl) (fun _ _ _ h => h) (Or.inr ⟨by kernel_rfl, rfl⟩) (by assumption) ?_
    try simp only [Act.put, List.setIfInBounds_toArray, List.set_cons_zero, List.set_cons_succ]
    refine wpAnyH_take (i := 22) (oi := { dst := some 41, op := _, type := _, pos := _, after := _, guard := _ }) (v := undef) rfl (by kernel_rfl) (by kernel_rfl) (by kernel_rfl) (fun _ _ _ h => h) (Or.inr ⟨by kernel_rfl, rfl⟩) (by assumption) ?_
    try simp only [Act.put, List.setIfInBounds_toArray, List.set_cons_zero, List.set_cons_succ]
    refine wpAnyH_take (i := 23) (oi := { dst := some 42, op := _, type := _, pos := _, after := _, guard := _ }) (v := .bool true) rfl (by kernel_rfl) (by kernel_rfl) (by kernel_rfl) (fun _ _ _ h => h) (Or.inl ⟨by rfl, fun w' hSw => (by (try dsimp only at hSw); go_simp)⟩) (by assumption) ?_
    try simp only [Act.put, List.setIfInBounds_toArray, List.set_cons_zero, List.set_cons_succ]
    refine wpAnyH_done (by kernel_rfl) ?_ _
    have hb2 := hb.trans (hS2.2.2.2.2.2.2.mono hb.size)
    clear c0 c1 d0 d1 d2 d3 hS2 HFD hG hD
    go_wp2_with fail
    refine (awakeG _).mono ?_; rintro e wa ⟨rfl, ba⟩
    go_wp2_with fail
    go_ret
    exact ⟨rfl, hb2.trans (ba.mono hb2.size)⟩
  rw [hf] at HFD
  have hE : Hid (E0.size ≤ 20 ∧ E1.size ≤ 20) := by
    unfold few13 at hf
    simp at hf
    exact ⟨hf.1.1, hf.1.2⟩
  clear hf
  cases hv0 : ivB (g0, E0)
  · rw [hv0] at HV0
    clear hv0 HV1 HH hE
    refine wp_region_held_drew (S := (fun w' => w'.cell? ⟨w.heap.size, 0, none⟩ = some (.string M) ∧ w'.cell? ⟨w.heap.size, 1, none⟩ = some (.string O) ∧ w'.cell? ⟨w.heap.size + 1, 0, none⟩ = some (.bool g0) ∧ w'.cell? ⟨w.heap.size + 1, 1, none⟩ = some (.string E0) ∧ w'.cell? ⟨w.heap.size + 1, 2, none⟩ = some (.bool g1) ∧ w'.cell? ⟨w.heap.size + 1, 3, none⟩ = some (.string E1) ∧ Below w1.heap.size w1 w')) (by kernel_rfl) ⟨c0, c1, d0, d1, d2, d3, (Below.refl _ w1).drew⟩ (fun hS0 => ?_)
    refine wpAnyH_take (i := 0) (oi := { dst := some 19, op := _, type := _, pos := _, after := _, guard := _ }) (v := .agg #[.string M, .string O]) rfl (by kernel_rfl) (by kernel_rfl) (by kernel_rfl) (fun _ _ _ h => h) (Or.inl ⟨by rfl, fun w' hSw => (by (try dsimp only at hSw); go_simp)⟩) (by assumption) ?_
    try simp only [Act.put, List.setIfInBounds_toArray, List.set_cons_zero, List.set_cons_succ]
    refine wpAnyH_take (i := 1) (oi := { dst := some 20, op := _, type := _, pos := _, after := _, guard := _ }) (v := .string s) rfl (by kernel_rfl) (by kernel_rfl) (by kernel_rfl) (fun _ _ _ h => h) (Or.inl ⟨by rfl, fun w' hSw => (by (try dsimp only at hSw); go_simp)⟩) (by assumption) ?_
    try simp only [Act.put, List.setIfInBounds_toArray, List.set_cons_zero, List.set_cons_succ]
    refine wpAnyH_take (i := 3) (oi := { dst := some 22, op := _, type := _, pos := _, after := _, guard := _ }) (v := .slice (some ⟨w.heap.size + 1, 0, none⟩) 2 2) rfl (by kernel_rfl) (by kernel_rfl) (by kernel_rfl) (fun _ _ _ h => h) (Or.inl ⟨by rfl, fun w' hSw => (by (try dsimp only at hSw); go_simp)⟩) (by assumption) ?_
    try simp only [Act.put, List.setIfInBounds_toArray, List.set_cons_zero, List.set_cons_succ]
    refine wpAnyH_ready (rs := [2]) (by kernel_rfl) (by simp) ?_
    refine AllReadyH.cons rfl (fun K hK => ?_) AllReadyH.nil
    rw [if_pos (by rfl)]
    go_simp
    refine hK.out _ _ (keep6 ⟨c0, c1, d0, d1, d2, d3, Below.refl _ w1⟩ (blwA w1 _).drew) (fun hS1 => ?_)
    clear hS0 hK
    try simp only [Act.put, List.setIfInBounds_toArray, List.set_cons_zero, List.set_cons_succ]
    refine wpAnyH_ready (rs := [4]) (by kernel_rfl) (by simp) ?_
    refine AllReadyH.cons rfl (fun K hK => ?_) AllReadyH.nil
    rw [if_pos (by rfl)]
    go_simp
    go_at_call 14
    refine (HFD.out).mono ?_; rintro e w2 ⟨rfl, bn⟩
    try go_simp
    refine hK.out _ _ (keep6 hS1 bn) (fun hS2 => ?_)
    clear bn hK hS1
    try simp only [Act.put, List.setIfInBounds_toArray, List.set_cons_zero, List.set_cons_succ]
    refine wpAnyH_take (i := 5) (oi := { dst := some 24, op := _, type := _, pos := _, after := _, guard := _ }) (v := .bool false) rfl (by kernel_rfl) (by kernel_rfl) (by kernel_rfl) (fun _ _ _ h => h) (Or.inl ⟨by rfl, fun w' hSw => (by (try dsimp only at hSw); go_simp)⟩) (by assumption) ?_
    try simp only [Act.put, List.setIfInBounds_toArray, List.set_cons_zero, List.set_cons_succ]
    refine wpAnyH_take (i := 6) (oi := { dst := some 25, op := _, type := _, pos := _, after := _, guard := _ }) (v := .bool false) rfl (by kernel_rfl) (by kernel_rfl) (by kernel_rfl) (fun _ _ _ h => h) (Or.inl ⟨by rfl, fun w' hSw => (by (try dsimp only at hSw); go_simp)⟩) (by assumption) ?_
    try simp only [Act.put, List.setIfInBounds_toArray, List.set_cons_zero, List.set_cons_succ]
    refine wpAnyH_take (i := 7) (oi := { dst := some 26, op := _, type := _, pos := _, after := _, guard := _ }) (v := .pointer (some ⟨w.heap.size + 1, 0, none⟩)) rfl (by kernel_rfl) (by kernel_rfl) (by kernel_rfl) (fun _ _ _ h => h) (Or.inl ⟨by rfl, fun w' hSw => (by (try dsimp only at hSw); go_simp)⟩) (by assumption) ?_
    try simp only [Act.put, List.setIfInBounds_toArray, List.set_cons_zero, List.set_cons_succ]
    refine wpAnyH_take (i := 8) (oi := { dst := some 27, op := _, type := _, pos := _, after := _, guard := _ }) (v := .agg #[.bool g0, .string E0]) rfl (by kernel_rfl) (by kernel_rfl) (by kernel_rfl) (fun _ _ _ h => h) (Or.inl ⟨by rfl, fun w' hSw => (by (try dsimp only at hSw); go_simp)⟩) (by assumption) ?_
    try simp only [Act.put, List.setIfInBounds_toArray, List.set_cons_zero, List.set_cons_succ]
    refine wpAnyH_ready (rs := [9]) (by kernel_rfl) (by simp) ?_
    refine AllReadyH.cons rfl (fun K hK => ?_) AllReadyH.nil
    rw [if_pos (by rfl)]
    go_simp
    go_at_call 17
    refine (HV0.out _).mono ?_; rintro e w3 ⟨rfl, bn⟩
    try go_simp
    refine hK.out _ _ (keep6 hS2 bn) (fun hS3 => ?_)
    clear bn hK hS2
    try simp only [Act.put, List.setIfInBounds_toArray, List.set_cons_zero, List.set_cons_succ]
    refine wpAnyH_take (i := 10) (oi := { dst := some 29, op := _, type := _, pos := _, after := _, guard := _ }) (v := .bool true) rfl (by kernel_rfl) (by kernel_rfl) (by kernel_rfl) (fun _ _ _ h => h) (Or.inl ⟨by rfl, fun w' hSw => (by (try dsimp only at hSw); go_simp)⟩) (by assumption) ?_
    try simp only [Act.put, List.setIfInBounds_toArray, List.set_cons_zero, List.set_cons_succ]
    refine wpAnyH_take (i := 11) (oi := { dst := some 30, op := _, type := _, pos := _, after := _, guard := _ }) (v := .bool true) rfl (by kernel_rfl) (by kernel_rfl) (by kernel_rfl) (fun _ _ _ h => h) (Or.inl ⟨by rfl, fun w' hSw => (by (try dsimp only at hSw); go_simp)⟩) (by assumption) ?_
    try simp only [Act.put, List.setIfInBounds_toArray, List.set_cons_zero, List.set_cons_succ]
    refine wpAnyH_take (i := 12) (oi := { dst := some 31, op := _, type := _, pos := _, after := _, guard := _ }) (v := .bool true) rfl (by kernel_rfl) (by kernel_rfl) (by kernel_rfl) (fun _ _ _ h => h) (Or.inl ⟨by rfl, fun w' hSw => (by (try dsimp only at hSw); go_simp)⟩) (by assumption) ?_
    try simp only [Act.put, List.setIfInBounds_toArray, List.set_cons_zero, List.set_cons_succ]
    refine wpAnyH_take (i := 13) (oi := { dst := some 32, op := _, type := _, pos := _, after := _, guard := _ }) (v := undef) rfl (by kernel_rfl) (by kernel_rfl) (by kernel_rfl) (fun _ _ _ h => h) (Or.inr ⟨by kernel_rfl, rfl⟩) (by assumption) ?_
    try simp only [Act.put, List.setIfInBounds_toArray, List.set_cons_zero, List.set_cons_succ]
    refine wpAnyH_take (i := 14) (oi := { dst := some 33, op := _, type := _, pos := _, after := _, guard := _ }) (v := undef) rfl (by kernel_rfl) (by kernel_rfl) (by kernel_rfl) (fun _ _ _ h => h) (Or.inr ⟨by kernel_rfl, rfl⟩) (by assumption) ?_
    try simp only [Act.put, List.setIfInBounds_toArray, List.set_cons_zero, List.set_cons_succ]
    refine wpAnyH_take (i := 15) (oi := { dst := some 34, op := _, type := _, pos := _, after := _, guard := _ }) (v := undef) rfl (by kernel_rfl) (by kernel_rfl) (by kernel_rfl) (fun _ _ _ h => h) (Or.inr ⟨by kernel_rfl, rfl⟩) (by assumption) ?_
    try simp only [Act.put, List.setIfInBounds_toArray, List.set_cons_zero, List.set_cons_succ]
    refine wpAnyH_take (i := 16) (oi := { dst := some 35, op := _, type := _, pos := _, after := _, guard := _ }) (v := undef) rfl (by kernel_rfl) (by kernel_rfl) (by kernel_rfl) (fun _ _ _ h => h) (Or.inr ⟨by kernel_rfl, rfl⟩) (by assumption) ?_
    try simp only [Act.put, List.setIfInBounds_toArray, List.set_cons_zero, List.set_cons_succ]
    refine wpAnyH_take (i := 17) (oi := { dst := some 36, op := _, type := _, pos := _, after := _, guard := _ }) (v := .bool true) rfl (by kernel_rfl) (by kernel_rfl) (by kernel_rfl) (fun _ _ _ h => h) (Or.inl ⟨by rfl, fun w' hSw => (by (try dsimp only at hSw); go_simp)⟩) (by assumption) ?_
    try simp only [Act.put, List.setIfInBounds_toArray, List.set_cons_zero, List.set_cons_succ]
    refine wpAnyH_take (i := 18) (oi := { dst := some 37, op := _, type := _, pos := _, after := _, guard := _ }) (v := .bool true) rfl (by kernel_rfl) (by kernel_rfl) (by kernel_rfl) (fun _ _ _ h => h) (Or.inl ⟨by rfl, fun w' hSw => (by (try dsimp only at hSw); go_simp)⟩) (by assumption) ?_
    try simp only [Act.put, List.setIfInBounds_toArray, List.set_cons_zero, List.set_cons_succ]
    refine wpAnyH_take (i := 19) (oi := { dst := some 38, op := _, type := _, pos := _, after := _, guard := _ }) (v := undef) rfl (by kernel_rfl) (by kernel_rfl) (by kernel_rfl) (fun _ _ _ h => h) (Or.inr ⟨by kernel_rfl, rfl⟩) (by assumption) ?_
    try simp only [Act.put, List.setIfInBounds_toArray, List.set_cons_zero, List.set_cons_succ]
    refine wpAnyH_take (i := 20) (oi := { dst := some 39, op := _, type := _, pos := _, after := _, guard := _ }) (v := undef) rfl (by kernel_rfl) (by kernel_rfl) (by kernel_rfl) (fun _ _ _ h => h) (Or.inr ⟨by kernel_rfl, rfl⟩) (by assumption) ?_
    try simp only [Act.put, List.setIfInBounds_toArray, List.set_cons_zero, List.set_cons_succ]
    refine wpAnyH_take (i := 21) (oi := { dst := some 40, op := _, type := _, pos := _, after := _, guard := _ }) (v := undef) rfl (by kernel_rfl) (by kernel_rfl) (by kernel_rfl) (fun _ _ _ h => h) (Or.inr ⟨by kernel_rfl, rfl⟩) (by assumption) ?_
    try simp only [Act.put, List.setIfInBounds_toArray, List.set_cons_zero, List.set_cons_succ]
    refine wpAnyH_take (i := 22) (oi := { dst := some 41, op := _, type := _, pos := _, after := _, guard := _ }) (v := undef) rfl (by kernel_rfl) (by kernel_rfl) (by kernel_rfl) (fun _ _ _ h => h) (Or.inr ⟨by kernel_rfl, rfl⟩) (by assumption) ?_
    try simp only [Act.put, List.setIfInBounds_toArray, List.set_cons_zero, List.set_cons_succ]
    refine wpAnyH_take (i := 23) (oi := { dst := some 42, op := _, type := _, pos := _, after := _, guard := _ }) (v := .bool true) rfl (by kernel_rfl) (by kernel_rfl) (by kernel_rfl) (fun _ _ _ h => h) (Or.inl ⟨by rfl, fun w' hSw => (by (try dsimp only at hSw); go_simp)⟩) (by assumption) ?_
    try simp only [Act.put, List.setIfInBounds_toArray, List.set_cons_zero, List.set_cons_succ]
    refine wpAnyH_done (by kernel_rfl) ?_ _
    have hb2 := hb.trans (hS3.2.2.2.2.2.2.mono hb.size)
    clear c0 c1 d0 d1 d2 d3 hS3 HFD hG hD
    go_wp2_with fail
    refine (awakeG _).mono ?_; rintro e wa ⟨rfl, ba⟩
    go_wp2_with fail
    go_ret
    exact ⟨rfl, hb2.trans (ba.mono hb2.size)⟩
  have HI0 := Lib.hid hv0
  rw [hv0] at HV0
  clear hv0
  cases hv1 : ivB (g1, E1)
  · rw [hv1] at HV1
    clear hv1 HH hE
    refine wp_region_held_drew (S := (fun w' => w'.cell? ⟨w.heap.size, 0, none⟩ = some (.string M) ∧ w'.cell? ⟨w.heap.size, 1, none⟩ = some (.string O) ∧ w'.cell? ⟨w.heap.size + 1, 0, none⟩ = some (.bool g0) ∧ w'.cell? ⟨w.heap.size + 1, 1, none⟩ = some (.string E0) ∧ w'.cell? ⟨w.heap.size + 1, 2, none⟩ = some (.bool g1) ∧ w'.cell? ⟨w.heap.size + 1, 3, none⟩ = some (.string E1) ∧ Below w1.heap.size w1 w')) (by kernel_rfl) ⟨c0, c1, d0, d1, d2, d3, (Below.refl _ w1).drew⟩ (fun hS0 => ?_)
    refine wpAnyH_take (i := 0) (oi := { dst := some 19, op := _, type := _, pos := _, after := _, guard := _ }) (v := .agg #[.string M, .string O]) rfl (by kernel_rfl) (by kernel_rfl) (by kernel_rfl) (fun _ _ _ h => h) (Or.inl ⟨by rfl, fun w' hSw => (by (try dsimp only at hSw); go_simp)⟩) (by assumption) ?_
    try simp only [Act.put, List.setIfInBounds_toArray, List.set_cons_zero, List.set_cons_succ]
    refine wpAnyH_take (i := 1) (oi := { dst := some 20, op := _, type := _, pos := _, after := _, guard := _ }) (v := .string s) rfl (by kernel_rfl) (by kernel_rfl) (by kernel_rfl) (fun _ _ _ h => h) (Or.inl ⟨by rfl, fun w' hSw => (by (try dsimp only at hSw); go_simp)⟩) (by assumption) ?_
    try simp only [Act.put, List.setIfInBounds_toArray, List.set_cons_zero, List.set_cons_succ]
    refine wpAnyH_take (i := 3) (oi := { dst := some 22, op := _, type := _, pos := _, after := _, guard := _ }) (v := .slice (some ⟨w.heap.size + 1, 0, none⟩) 2 2) rfl (by kernel_rfl) (by kernel_rfl) (by kernel_rfl) (fun _ _ _ h => h) (Or.inl ⟨by rfl, fun w' hSw => (by (try dsimp only at hSw); go_simp)⟩) (by assumption) ?_
    try simp only [Act.put, List.setIfInBounds_toArray, List.set_cons_zero, List.set_cons_succ]
    refine wpAnyH_ready (rs := [2]) (by kernel_rfl) (by simp) ?_
    refine AllReadyH.cons rfl (fun K hK => ?_) AllReadyH.nil
    rw [if_pos (by rfl)]
    go_simp
    refine hK.out _ _ (keep6 ⟨c0, c1, d0, d1, d2, d3, Below.refl _ w1⟩ (blwA w1 _).drew) (fun hS1 => ?_)
    clear hS0 hK
    try simp only [Act.put, List.setIfInBounds_toArray, List.set_cons_zero, List.set_cons_succ]
    refine wpAnyH_ready (rs := [4]) (by kernel_rfl) (by simp) ?_
    refine AllReadyH.cons rfl (fun K hK => ?_) AllReadyH.nil
    rw [if_pos (by rfl)]
    go_simp
    go_at_call 14
    refine (HFD.out).mono ?_; rintro e w2 ⟨rfl, bn⟩
    try go_simp
    refine hK.out _ _ (keep6 hS1 bn) (fun hS2 => ?_)
    clear bn hK hS1
    try simp only [Act.put, List.setIfInBounds_toArray, List.set_cons_zero, List.set_cons_succ]
    refine wpAnyH_take (i := 5) (oi := { dst := some 24, op := _, type := _, pos := _, after := _, guard := _ }) (v := .bool false) rfl (by kernel_rfl) (by kernel_rfl) (by kernel_rfl) (fun _ _ _ h => h) (Or.inl ⟨by rfl, fun w' hSw => (by (try dsimp only at hSw); go_simp)⟩) (by assumption) ?_
    try simp only [Act.put, List.setIfInBounds_toArray, List.set_cons_zero, List.set_cons_succ]
    refine wpAnyH_take (i := 6) (oi := { dst := some 25, op := _, type := _, pos := _, after := _, guard := _ }) (v := .bool false) rfl (by kernel_rfl) (by kernel_rfl) (by kernel_rfl) (fun _ _ _ h => h) (Or.inl ⟨by rfl, fun w' hSw => (by (try dsimp only at hSw); go_simp)⟩) (by assumption) ?_
    try simp only [Act.put, List.setIfInBounds_toArray, List.set_cons_zero, List.set_cons_succ]
    refine wpAnyH_take (i := 7) (oi := { dst := some 26, op := _, type := _, pos := _, after := _, guard := _ }) (v := .pointer (some ⟨w.heap.size + 1, 0, none⟩)) rfl (by kernel_rfl) (by kernel_rfl) (by kernel_rfl) (fun _ _ _ h => h) (Or.inl ⟨by rfl, fun w' hSw => (by (try dsimp only at hSw); go_simp)⟩) (by assumption) ?_
    try simp only [Act.put, List.setIfInBounds_toArray, List.set_cons_zero, List.set_cons_succ]
    refine wpAnyH_take (i := 8) (oi := { dst := some 27, op := _, type := _, pos := _, after := _, guard := _ }) (v := .agg #[.bool g0, .string E0]) rfl (by kernel_rfl) (by kernel_rfl) (by kernel_rfl) (fun _ _ _ h => h) (Or.inl ⟨by rfl, fun w' hSw => (by (try dsimp only at hSw); go_simp)⟩) (by assumption) ?_
    try simp only [Act.put, List.setIfInBounds_toArray, List.set_cons_zero, List.set_cons_succ]
    refine wpAnyH_ready (rs := [9]) (by kernel_rfl) (by simp) ?_
    refine AllReadyH.cons rfl (fun K hK => ?_) AllReadyH.nil
    rw [if_pos (by rfl)]
    go_simp
    go_at_call 17
    refine (HV0.out _).mono ?_; rintro e w3 ⟨rfl, bn⟩
    try go_simp
    refine hK.out _ _ (keep6 hS2 bn) (fun hS3 => ?_)
    clear bn hK hS2
    try simp only [Act.put, List.setIfInBounds_toArray, List.set_cons_zero, List.set_cons_succ]
    refine wpAnyH_take (i := 10) (oi := { dst := some 29, op := _, type := _, pos := _, after := _, guard := _ }) (v := .bool false) rfl (by kernel_rfl) (by kernel_rfl) (by kernel_rfl) (fun _ _ _ h => h) (Or.inl ⟨by rfl, fun w' hSw => (by (try dsimp only at hSw); go_simp)⟩) (by assumption) ?_
    try simp only [Act.put, List.setIfInBounds_toArray, List.set_cons_zero, List.set_cons_succ]
    refine wpAnyH_take (i := 11) (oi := { dst := some 30, op := _, type := _, pos := _, after := _, guard := _ }) (v := .bool false) rfl (by kernel_rfl) (by kernel_rfl) (by kernel_rfl) (fun _ _ _ h => h) (Or.inl ⟨by rfl, fun w' hSw => (by (try dsimp only at hSw); go_simp)⟩) (by assumption) ?_
    try simp only [Act.put, List.setIfInBounds_toArray, List.set_cons_zero, List.set_cons_succ]
    refine wpAnyH_take (i := 12) (oi := { dst := some 31, op := _, type := _, pos := _, after := _, guard := _ }) (v := .bool false) rfl (by kernel_rfl) (by kernel_rfl) (by kernel_rfl) (fun _ _ _ h => h) (Or.inl ⟨by rfl, fun w' hSw => (by (try dsimp only at hSw); go_simp)⟩) (by assumption) ?_
    try simp only [Act.put, List.setIfInBounds_toArray, List.set_cons_zero, List.set_cons_succ]
    refine wpAnyH_take (i := 13) (oi := { dst := some 32, op := _, type := _, pos := _, after := _, guard := _ }) (v := .pointer (some ⟨w.heap.size + 1, 2, none⟩)) rfl (by kernel_rfl) (by kernel_rfl) (by kernel_rfl) (fun _ _ _ h => h) (Or.inl ⟨by rfl, fun w' hSw => (by (try dsimp only at hSw); go_simp)⟩) (by assumption) ?_
    try simp only [Act.put, List.setIfInBounds_toArray, List.set_cons_zero, List.set_cons_succ]
    refine wpAnyH_take (i := 14) (oi := { dst := some 33, op := _, type := _, pos := _, after := _, guard := _ }) (v := .agg #[.bool g1, .string E1]) rfl (by kernel_rfl) (by kernel_rfl) (by kernel_rfl) (fun _ _ _ h => h) (Or.inl ⟨by rfl, fun w' hSw => (by (try dsimp only at hSw); go_simp)⟩) (by assumption) ?_
    try simp only [Act.put, List.setIfInBounds_toArray, List.set_cons_zero, List.set_cons_succ]
    refine wpAnyH_ready (rs := [15]) (by kernel_rfl) (by simp) ?_
    refine AllReadyH.cons rfl (fun K hK => ?_) AllReadyH.nil
    rw [if_pos (by rfl)]
    go_simp
    go_at_call 17
    refine (HV1.out _).mono ?_; rintro e w4 ⟨rfl, bn⟩
    try go_simp
    refine hK.out _ _ (keep6 hS3 bn) (fun hS4 => ?_)
    clear bn hK hS3
    try simp only [Act.put, List.setIfInBounds_toArray, List.set_cons_zero, List.set_cons_succ]
    refine wpAnyH_take (i := 16) (oi := { dst := some 35, op := _, type := _, pos := _, after := _, guard := _ }) (v := .bool true) rfl (by kernel_rfl) (by kernel_rfl) (by kernel_rfl) (fun _ _ _ h => h) (Or.inl ⟨by rfl, fun w' hSw => (by (try dsimp only at hSw); go_simp)⟩) (by assumption) ?_
    try simp only [Act.put, List.setIfInBounds_toArray, List.set_cons_zero, List.set_cons_succ]
    refine wpAnyH_take (i := 17) (oi := { dst := some 36, op := _, type := _, pos := _, after := _, guard := _ }) (v := .bool true) rfl (by kernel_rfl) (by kernel_rfl) (by kernel_rfl) (fun _ _ _ h => h) (Or.inl ⟨by rfl, fun w' hSw => (by (try dsimp only at hSw); go_simp)⟩) (by assumption) ?_
    try simp only [Act.put, List.setIfInBounds_toArray, List.set_cons_zero, List.set_cons_succ]
    refine wpAnyH_take (i := 18) (oi := { dst := some 37, op := _, type := _, pos := _, after := _, guard := _ }) (v := .bool true) rfl (by kernel_rfl) (by kernel_rfl) (by kernel_rfl) (fun _ _ _ h => h) (Or.inl ⟨by rfl, fun w' hSw => (by (try dsimp only at hSw); go_simp)⟩) (by assumption) ?_
    try simp only [Act.put, List.setIfInBounds_toArray, List.set_cons_zero, List.set_cons_succ]
    refine wpAnyH_take (i := 19) (oi := { dst := some 38, op := _, type := _, pos := _, after := _, guard := _ }) (v := undef) rfl (by kernel_rfl) (by kernel_rfl) (by kernel_rfl) (fun _ _ _ h => h) (Or.inr ⟨by kernel_rfl, rfl⟩) (by assumption) ?_
    try simp only [Act.put, List.setIfInBounds_toArray, List.set_cons_zero, List.set_cons_succ]
    refine wpAnyH_take (i := 20) (oi := { dst := some 39, op := _, type := _, pos := _, after := _, guard := _ }) (v := undef) rfl (by kernel_rfl) (by kernel_rfl) (by kernel_rfl) (fun _ _ _ h => h) (Or.inr ⟨by kernel_rfl, rfl⟩) (by assumption) ?_
    try simp only [Act.put, List.setIfInBounds_toArray, List.set_cons_zero, List.set_cons_succ]
    refine wpAnyH_take (i := 21) (oi := { dst := some 40, op := _, type := _, pos := _, after := _, guard := _ }) (v := undef) rfl (by kernel_rfl) (by kernel_rfl) (by kernel_rfl) (fun _ _ _ h => h) (Or.inr ⟨by kernel_rfl, rfl⟩) (by assumption) ?_
    try simp only [Act.put, List.setIfInBounds_toArray, List.set_cons_zero, List.set_cons_succ]
    refine wpAnyH_take (i := 22) (oi := { dst := some 41, op := _, type := _, pos := _, after := _, guard := _ }) (v := undef) rfl (by kernel_rfl) (by kernel_rfl) (by kernel_rfl) (fun _ _ _ h => h) (Or.inr ⟨by kernel_rfl, rfl⟩) (by assumption) ?_
    try simp only [Act.put, List.setIfInBounds_toArray, List.set_cons_zero, List.set_cons_succ]
    refine wpAnyH_take (i := 23) (oi := { dst := some 42, op := _, type := _, pos := _, after := _, guard := _ }) (v := .bool true) rfl (by kernel_rfl) (by kernel_rfl) (by kernel_rfl) (fun _ _ _ h => h) (Or.inl ⟨by rfl, fun w' hSw => (by (try dsimp only at hSw); go_simp)⟩) (by assumption) ?_
    try simp only [Act.put, List.setIfInBounds_toArray, List.set_cons_zero, List.set_cons_succ]
    refine wpAnyH_done (by kernel_rfl) ?_ _
    have hb2 := hb.trans (hS4.2.2.2.2.2.2.mono hb.size)
    clear c0 c1 d0 d1 d2 d3 hS4 HFD hG hD
    go_wp2_with fail
    refine (awakeG _).mono ?_; rintro e wa ⟨rfl, ba⟩
    go_wp2_with fail
    go_ret
    exact ⟨rfl, hb2.trans (ba.mono hb2.size)⟩
  have HI1 := Lib.hid hv1
  rw [hv1] at HV1
  clear hv1
  cases hh : hasB M O s
  · rw [hh] at HH
    clear hh hE
    refine wp_region_held_drew (S := (fun w' => w'.cell? ⟨w.heap.size, 0, none⟩ = some (.string M) ∧ w'.cell? ⟨w.heap.size, 1, none⟩ = some (.string O) ∧ w'.cell? ⟨w.heap.size + 1, 0, none⟩ = some (.bool g0) ∧ w'.cell? ⟨w.heap.size + 1, 1, none⟩ = some (.string E0) ∧ w'.cell? ⟨w.heap.size + 1, 2, none⟩ = some (.bool g1) ∧ w'.cell? ⟨w.heap.size + 1, 3, none⟩ = some (.string E1) ∧ Below w1.heap.size w1 w')) (by kernel_rfl) ⟨c0, c1, d0, d1, d2, d3, (Below.refl _ w1).drew⟩ (fun hS0 => ?_)
    refine wpAnyH_take (i := 0) (oi := { dst := some 19, op := _, type := _, pos := _, after := _, guard := _ }) (v := .agg #[.string M, .string O]) rfl (by kernel_rfl) (by kernel_rfl) (by kernel_rfl) (fun _ _ _ h => h) (Or.inl ⟨by rfl, fun w' hSw => (by (try dsimp only at hSw); go_simp)⟩) (by assumption) ?_
    try simp only [Act.put, List.setIfInBounds_toArray, List.set_cons_zero, List.set_cons_succ]
    refine wpAnyH_take (i := 1) (oi := { dst := some 20, op := _, type := _, pos := _, after := _, guard := _ }) (v := .string s) rfl (by kernel_rfl) (by kernel_rfl) (by kernel_rfl) (fun _ _ _ h => h) (Or.inl ⟨by rfl, fun w' hSw => (by (try dsimp only at hSw); go_simp)⟩) (by assumption) ?_
    try simp only [Act.put, List.setIfInBounds_toArray, List.set_cons_zero, List.set_cons_succ]
    refine wpAnyH_take (i := 3) (oi := { dst := some 22, op := _, type := _, pos := _, after := _, guard := _ }) (v := .slice (some ⟨w.heap.size + 1, 0, none⟩) 2 2) rfl (by kernel_rfl) (by kernel_rfl) (by kernel_rfl) (fun _ _ _ h => h) (Or.inl ⟨by rfl, fun w' hSw => (by (try dsimp only at hSw); go_simp)⟩) (by assumption) ?_
    try simp only [Act.put, List.setIfInBounds_toArray, List.set_cons_zero, List.set_cons_succ]
    refine wpAnyH_ready (rs := [2]) (by kernel_rfl) (by simp) ?_
    refine AllReadyH.cons rfl (fun K hK => ?_) AllReadyH.nil
    rw [if_pos (by rfl)]
    go_simp
    refine hK.out _ _ (keep6 ⟨c0, c1, d0, d1, d2, d3, Below.refl _ w1⟩ (blwA w1 _).drew) (fun hS1 => ?_)
    clear hS0 hK
    try simp only [Act.put, List.setIfInBounds_toArray, List.set_cons_zero, List.set_cons_succ]
    refine wpAnyH_ready (rs := [4]) (by kernel_rfl) (by simp) ?_
    refine AllReadyH.cons rfl (fun K hK => ?_) AllReadyH.nil
    rw [if_pos (by rfl)]
    go_simp
    go_at_call 14
    refine (HFD.out).mono ?_; rintro e w2 ⟨rfl, bn⟩
    try go_simp
    refine hK.out _ _ (keep6 hS1 bn) (fun hS2 => ?_)
    clear bn hK hS1
    try simp only [Act.put, List.setIfInBounds_toArray, List.set_cons_zero, List.set_cons_succ]
    refine wpAnyH_take (i := 5) (oi := { dst := some 24, op := _, type := _, pos := _, after := _, guard := _ }) (v := .bool false) rfl (by kernel_rfl) (by kernel_rfl) (by kernel_rfl) (fun _ _ _ h => h) (Or.inl ⟨by rfl, fun w' hSw => (by (try dsimp only at hSw); go_simp)⟩) (by assumption) ?_
    try simp only [Act.put, List.setIfInBounds_toArray, List.set_cons_zero, List.set_cons_succ]
    refine wpAnyH_take (i := 6) (oi := { dst := some 25, op := _, type := _, pos := _, after := _, guard := _ }) (v := .bool false) rfl (by kernel_rfl) (by kernel_rfl) (by kernel_rfl) (fun _ _ _ h => h) (Or.inl ⟨by rfl, fun w' hSw => (by (try dsimp only at hSw); go_simp)⟩) (by assumption) ?_
    try simp only [Act.put, List.setIfInBounds_toArray, List.set_cons_zero, List.set_cons_succ]
    refine wpAnyH_take (i := 7) (oi := { dst := some 26, op := _, type := _, pos := _, after := _, guard := _ }) (v := .pointer (some ⟨w.heap.size + 1, 0, none⟩)) rfl (by kernel_rfl) (by kernel_rfl) (by kernel_rfl) (fun _ _ _ h => h) (Or.inl ⟨by rfl, fun w' hSw => (by (try dsimp only at hSw); go_simp)⟩) (by assumption) ?_
    try simp only [Act.put, List.setIfInBounds_toArray, List.set_cons_zero, List.set_cons_succ]
    refine wpAnyH_take (i := 8) (oi := { dst := some 27, op := _, type := _, pos := _, after := _, guard := _ }) (v := .agg #[.bool g0, .string E0]) rfl (by kernel_rfl) (by kernel_rfl) (by kernel_rfl) (fun _ _ _ h => h) (Or.inl ⟨by rfl, fun w' hSw => (by (try dsimp only at hSw); go_simp)⟩) (by assumption) ?_
    try simp only [Act.put, List.setIfInBounds_toArray, List.set_cons_zero, List.set_cons_succ]
    refine wpAnyH_ready (rs := [9]) (by kernel_rfl) (by simp) ?_
    refine AllReadyH.cons rfl (fun K hK => ?_) AllReadyH.nil
    rw [if_pos (by rfl)]
    go_simp
    go_at_call 17
    refine (HV0.out _).mono ?_; rintro e w3 ⟨rfl, bn⟩
    try go_simp
    refine hK.out _ _ (keep6 hS2 bn) (fun hS3 => ?_)
    clear bn hK hS2
    try simp only [Act.put, List.setIfInBounds_toArray, List.set_cons_zero, List.set_cons_succ]
    refine wpAnyH_take (i := 10) (oi := { dst := some 29, op := _, type := _, pos := _, after := _, guard := _ }) (v := .bool false) rfl (by kernel_rfl) (by kernel_rfl) (by kernel_rfl) (fun _ _ _ h => h) (Or.inl ⟨by rfl, fun w' hSw => (by (try dsimp only at hSw); go_simp)⟩) (by assumption) ?_
    try simp only [Act.put, List.setIfInBounds_toArray, List.set_cons_zero, List.set_cons_succ]
    refine wpAnyH_take (i := 11) (oi := { dst := some 30, op := _, type := _, pos := _, after := _, guard := _ }) (v := .bool false) rfl (by kernel_rfl) (by kernel_rfl) (by kernel_rfl) (fun _ _ _ h => h) (Or.inl ⟨by rfl, fun w' hSw => (by (try dsimp only at hSw); go_simp)⟩) (by assumption) ?_
    try simp only [Act.put, List.setIfInBounds_toArray, List.set_cons_zero, List.set_cons_succ]
    refine wpAnyH_take (i := 12) (oi := { dst := some 31, op := _, type := _, pos := _, after := _, guard := _ }) (v := .bool false) rfl (by kernel_rfl) (by kernel_rfl) (by kernel_rfl) (fun _ _ _ h => h) (Or.inl ⟨by rfl, fun w' hSw => (by (try dsimp only at hSw); go_simp)⟩) (by assumption) ?_
    try simp only [Act.put, List.setIfInBounds_toArray, List.set_cons_zero, List.set_cons_succ]
    refine wpAnyH_take (i := 13) (oi := { dst := some 32, op := _, type := _, pos := _, after := _, guard := _ }) (v := .pointer (some ⟨w.heap.size + 1, 2, none⟩)) rfl (by kernel_rfl) (by kernel_rfl) (by kernel_rfl) (fun _ _ _ h => h) (Or.inl ⟨by rfl, fun w' hSw => (by (try dsimp only at hSw); go_simp)⟩) (by assumption) ?_
    try simp only [Act.put, List.setIfInBounds_toArray, List.set_cons_zero, List.set_cons_succ]
    refine wpAnyH_take (i := 14) (oi := { dst := some 33, op := _, type := _, pos := _, after := _, guard := _ }) (v := .agg #[.bool g1, .string E1]) rfl (by kernel_rfl) (by kernel_rfl) (by kernel_rfl) (fun _ _ _ h => h) (Or.inl ⟨by rfl, fun w' hSw => (by (try dsimp only at hSw); go_simp)⟩) (by assumption) ?_
    try simp only [Act.put, List.setIfInBounds_toArray, List.set_cons_zero, List.set_cons_succ]
    refine wpAnyH_ready (rs := [15]) (by kernel_rfl) (by simp) ?_
    refine AllReadyH.cons rfl (fun K hK => ?_) AllReadyH.nil
    rw [if_pos (by rfl)]
    go_simp
    go_at_call 17
    refine (HV1.out _).mono ?_; rintro e w4 ⟨rfl, bn⟩
    try go_simp
    refine hK.out _ _ (keep6 hS3 bn) (fun hS4 => ?_)
    clear bn hK hS3
    try simp only [Act.put, List.setIfInBounds_toArray, List.set_cons_zero, List.set_cons_succ]
    refine wpAnyH_take (i := 16) (oi := { dst := some 35, op := _, type := _, pos := _, after := _, guard := _ }) (v := .bool false) rfl (by kernel_rfl) (by kernel_rfl) (by kernel_rfl) (fun _ _ _ h => h) (Or.inl ⟨by rfl, fun w' hSw => (by (try dsimp only at hSw); go_simp)⟩) (by assumption) ?_
    try simp only [Act.put, List.setIfInBounds_toArray, List.set_cons_zero, List.set_cons_succ]
    refine wpAnyH_take (i := 17) (oi := { dst := some 36, op := _, type := _, pos := _, after := _, guard := _ }) (v := .bool false) rfl (by kernel_rfl) (by kernel_rfl) (by kernel_rfl) (fun _ _ _ h => h) (Or.inl ⟨by rfl, fun w' hSw => (by (try dsimp only at hSw); go_simp)⟩) (by assumption) ?_
    try simp only [Act.put, List.setIfInBounds_toArray, List.set_cons_zero, List.set_cons_succ]
    refine wpAnyH_take (i := 18) (oi := { dst := some 37, op := _, type := _, pos := _, after := _, guard := _ }) (v := .bool false) rfl (by kernel_rfl) (by kernel_rfl) (by kernel_rfl) (fun _ _ _ h => h) (Or.inl ⟨by rfl, fun w' hSw => (by (try dsimp only at hSw); go_simp)⟩) (by assumption) ?_
    try simp only [Act.put, List.setIfInBounds_toArray, List.set_cons_zero, List.set_cons_succ]
    refine wpAnyH_take (i := 19) (oi := { dst := some 38, op := _, type := _, pos := _, after := _, guard := _ }) (v := .agg #[.string M, .string O]) rfl (by kernel_rfl) (by kernel_rfl) (by kernel_rfl) (fun _ _ _ h => h) (Or.inl ⟨by rfl, fun w' hSw => (by (try dsimp only at hSw); go_simp)⟩) (by assumption) ?_
    try simp only [Act.put, List.setIfInBounds_toArray, List.set_cons_zero, List.set_cons_succ]
    refine wpAnyH_take (i := 20) (oi := { dst := some 39, op := _, type := _, pos := _, after := _, guard := _ }) (v := .string s) rfl (by kernel_rfl) (by kernel_rfl) (by kernel_rfl) (fun _ _ _ h => h) (Or.inl ⟨by rfl, fun w' hSw => (by (try dsimp only at hSw); go_simp)⟩) (by assumption) ?_
    try simp only [Act.put, List.setIfInBounds_toArray, List.set_cons_zero, List.set_cons_succ]
    refine wpAnyH_ready (rs := [21]) (by kernel_rfl) (by simp) ?_
    refine AllReadyH.cons rfl (fun K hK => ?_) AllReadyH.nil
    rw [if_pos (by rfl)]
    go_simp
    go_at_call 7
    refine (HH.out _).mono ?_; rintro e w5 ⟨rfl, bn⟩
    try go_simp
    refine hK.out _ _ (keep6 hS4 bn) (fun hS5 => ?_)
    clear bn hK hS4
    try simp only [Act.put, List.setIfInBounds_toArray, List.set_cons_zero, List.set_cons_succ]
    refine wpAnyH_take (i := 22) (oi := { dst := some 41, op := _, type := _, pos := _, after := _, guard := _ }) (v := .bool true) rfl (by kernel_rfl) (by kernel_rfl) (by kernel_rfl) (fun _ _ _ h => h) (Or.inl ⟨by rfl, fun w' hSw => (by (try dsimp only at hSw); go_simp)⟩) (by assumption) ?_
    try simp only [Act.put, List.setIfInBounds_toArray, List.set_cons_zero, List.set_cons_succ]
    refine wpAnyH_take (i := 23) (oi := { dst := some 42, op := _, type := _, pos := _, after := _, guard := _ }) (v := .bool true) rfl (by kernel_rfl) (by kernel_rfl) (by kernel_rfl) (fun _ _ _ h => h) (Or.inl ⟨by rfl, fun w' hSw => (by (try dsimp only at hSw); go_simp)⟩) (by assumption) ?_
    try simp only [Act.put, List.setIfInBounds_toArray, List.set_cons_zero, List.set_cons_succ]
    refine wpAnyH_done (by kernel_rfl) ?_ _
    have hb2 := hb.trans (hS5.2.2.2.2.2.2.mono hb.size)
    clear c0 c1 d0 d1 d2 d3 hS5 HFD hG hD
    go_wp2_with fail
    refine (awakeG _).mono ?_; rintro e wa ⟨rfl, ba⟩
    go_wp2_with fail
    go_ret
    exact ⟨rfl, hb2.trans (ba.mono hb2.size)⟩
  have HHB := Lib.hid hh
  rw [hh] at HH
  clear hh
  refine wp_region_held_drew (S := (fun w' => w'.cell? ⟨w.heap.size, 0, none⟩ = some (.string M) ∧ w'.cell? ⟨w.heap.size, 1, none⟩ = some (.string O) ∧ w'.cell? ⟨w.heap.size + 1, 0, none⟩ = some (.bool g0) ∧ w'.cell? ⟨w.heap.size + 1, 1, none⟩ = some (.string E0) ∧ w'.cell? ⟨w.heap.size + 1, 2, none⟩ = some (.bool g1) ∧ w'.cell? ⟨w.heap.size + 1, 3, none⟩ = some (.string E1) ∧ Below w1.heap.size w1 w')) (by kernel_rfl) ⟨c0, c1, d0, d1, d2, d3, (Below.refl _ w1).drew⟩ (fun hS0 => ?_)
  refine wpAnyH_take (i := 0) (oi := { dst := some 19, op := _, type := _, pos := _, after := _, guard := _ }) (v := .agg #[.string M, .string O]) rfl (by kernel_rfl) (by kernel_rfl) (by kernel_rfl) (fun _ _ _ h => h) (Or.inl ⟨by rfl, fun w' hSw => (by (try dsimp only at hSw); go_simp)⟩) (by assumption) ?_
  try simp only [Act.put, List.setIfInBounds_toArray, List.set_cons_zero, List.set_cons_succ]
  refine wpAnyH_take (i := 1) (oi := { dst := some 20, op := _, type := _, pos := _, after := _, guard := _ }) (v := .string s) rfl (by kernel_rfl) (by kernel_rfl) (by kernel_rfl) (fun _ _ _ h => h) (Or.inl ⟨by rfl, fun w' hSw => (by (try dsimp only at hSw); go_simp)⟩) (by assumption) ?_
  try simp only [Act.put, List.setIfInBounds_toArray, List.set_cons_zero, List.set_cons_succ]
  refine wpAnyH_take (i := 3) (oi := { dst := some 22, op := _, type := _, pos := _, after := _, guard := _ }) (v := .slice (some ⟨w.heap.size + 1, 0, none⟩) 2 2) rfl (by kernel_rfl) (by kernel_rfl) (by kernel_rfl) (fun _ _ _ h => h) (Or.inl ⟨by rfl, fun w' hSw => (by (try dsimp only at hSw); go_simp)⟩) (by assumption) ?_
  try simp only [Act.put, List.setIfInBounds_toArray, List.set_cons_zero, List.set_cons_succ]
  refine wpAnyH_ready (rs := [2]) (by kernel_rfl) (by simp) ?_
  refine AllReadyH.cons rfl (fun K hK => ?_) AllReadyH.nil
  rw [if_pos (by rfl)]
  go_simp
  refine hK.out _ _ (keep6 ⟨c0, c1, d0, d1, d2, d3, Below.refl _ w1⟩ (blwA w1 _).drew) (fun hS1 => ?_)
  clear hS0 hK
  try simp only [Act.put, List.setIfInBounds_toArray, List.set_cons_zero, List.set_cons_succ]
  refine wpAnyH_ready (rs := [4]) (by kernel_rfl) (by simp) ?_
  refine AllReadyH.cons rfl (fun K hK => ?_) AllReadyH.nil
  rw [if_pos (by rfl)]
  go_simp
  go_at_call 14
  refine (HFD.out).mono ?_; rintro e w2 ⟨rfl, bn⟩
  try go_simp
  refine hK.out _ _ (keep6 hS1 bn) (fun hS2 => ?_)
  clear bn hK hS1
  try simp only [Act.put, List.setIfInBounds_toArray, List.set_cons_zero, List.set_cons_succ]
  refine wpAnyH_take (i := 5) (oi := { dst := some 24, op := _, type := _, pos := _, after := _, guard := _ }) (v := .bool false) rfl (by kernel_rfl) (by kernel_rfl) (by kernel_rfl) (fun _ _ _ h => h) (Or.inl ⟨by rfl, fun w' hSw => (by (try dsimp only at hSw); go_simp)⟩) (by assumption) ?_
  try simp only [Act.put, List.setIfInBounds_toArray, List.set_cons_zero, List.set_cons_succ]
  refine wpAnyH_take (i := 6) (oi := { dst := some 25, op := _, type := _, pos := _, after := _, guard := _ }) (v := .bool false) rfl (by kernel_rfl) (by kernel_rfl) (by kernel_rfl) (fun _ _ _ h => h) (Or.inl ⟨by rfl, fun w' hSw => (by (try dsimp only at hSw); go_simp)⟩) (by assumption) ?_
  try simp only [Act.put, List.setIfInBounds_toArray, List.set_cons_zero, List.set_cons_succ]
  refine wpAnyH_take (i := 7) (oi := { dst := some 26, op := _, type := _, pos := _, after := _, guard := _ }) (v := .pointer (some ⟨w.heap.size + 1, 0, none⟩)) rfl (by kernel_rfl) (by kernel_rfl) (by kernel_rfl) (fun _ _ _ h => h) (Or.inl ⟨by rfl, fun w' hSw => (by (try dsimp only at hSw); go_simp)⟩) (by assumption) ?_
  try simp only [Act.put, List.setIfInBounds_toArray, List.set_cons_zero, List.set_cons_succ]
  refine wpAnyH_take (i := 8) (oi := { dst := some 27, op := _, type := _, pos := _, after := _, guard := _ }) (v := .agg #[.bool g0, .string E0]) rfl (by kernel_rfl) (by kernel_rfl) (by kernel_rfl) (fun _ _ _ h => h) (Or.inl ⟨by rfl, fun w' hSw => (by (try dsimp only at hSw); go_simp)⟩) (by assumption) ?_
  try simp only [Act.put, List.setIfInBounds_toArray, List.set_cons_zero, List.set_cons_succ]
  refine wpAnyH_ready (rs := [9]) (by kernel_rfl) (by simp) ?_
  refine AllReadyH.cons rfl (fun K hK => ?_) AllReadyH.nil
  rw [if_pos (by rfl)]
  go_simp
  go_at_call 17
  refine (HV0.out _).mono ?_; rintro e w3 ⟨rfl, bn⟩
  try go_simp
  refine hK.out _ _ (keep6 hS2 bn) (fun hS3 => ?_)
  clear bn hK hS2
  try simp only [Act.put, List.setIfInBounds_toArray, List.set_cons_zero, List.set_cons_succ]
  refine wpAnyH_take (i := 10) (oi := { dst := some 29, op := _, type := _, pos := _, after := _, guard := _ }) (v := .bool false) rfl (by kernel_rfl) (by kernel_rfl) (by kernel_rfl) (fun _ _ _ h => h) (Or.inl ⟨by rfl, fun w' hSw => (by (try dsimp only at hSw); go_simp)⟩) (by assumption) ?_
  try simp only [Act.put, List.setIfInBounds_toArray, List.set_cons_zero, List.set_cons_succ]
  refine wpAnyH_take (i := 11) (oi := { dst := some 30, op := _, type := _, pos := _, after := _, guard := _ }) (v := .bool false) rfl (by kernel_rfl) (by kernel_rfl) (by kernel_rfl) (fun _ _ _ h => h) (Or.inl ⟨by rfl, fun w' hSw => (by (try dsimp only at hSw); go_simp)⟩) (by assumption) ?_
  try simp only [Act.put, List.setIfInBounds_toArray, List.set_cons_zero, List.set_cons_succ]
  refine wpAnyH_take (i := 12) (oi := { dst := some 31, op := _, type := _, pos := _, after := _, guard := _ }) (v := .bool false) rfl (by kernel_rfl) (by kernel_rfl) (by kernel_rfl) (fun _ _ _ h => h) (Or.inl ⟨by rfl, fun w' hSw => (by (try dsimp only at hSw); go_simp)⟩) (by assumption) ?_
  try simp only [Act.put, List.setIfInBounds_toArray, List.set_cons_zero, List.set_cons_succ]
  refine wpAnyH_take (i := 13) (oi := { dst := some 32, op := _, type := _, pos := _, after := _, guard := _ }) (v := .pointer (some ⟨w.heap.size + 1, 2, none⟩)) rfl (by kernel_rfl) (by kernel_rfl) (by kernel_rfl) (fun _ _ _ h => h) (Or.inl ⟨by rfl, fun w' hSw => (by (try dsimp only at hSw); go_simp)⟩) (by assumption) ?_
  try simp only [Act.put, List.setIfInBounds_toArray, List.set_cons_zero, List.set_cons_succ]
  refine wpAnyH_take (i := 14) (oi := { dst := some 33, op := _, type := _, pos := _, after := _, guard := _ }) (v := .agg #[.bool g1, .string E1]) rfl (by kernel_rfl) (by kernel_rfl) (by kernel_rfl) (fun _ _ _ h => h) (Or.inl ⟨by rfl, fun w' hSw => (by (try dsimp only at hSw); go_simp)⟩) (by assumption) ?_
  try simp only [Act.put, List.setIfInBounds_toArray, List.set_cons_zero, List.set_cons_succ]
  refine wpAnyH_ready (rs := [15]) (by kernel_rfl) (by simp) ?_
  refine AllReadyH.cons rfl (fun K hK => ?_) AllReadyH.nil
  rw [if_pos (by rfl)]
  go_simp
  go_at_call 17
  refine (HV1.out _).mono ?_; rintro e w4 ⟨rfl, bn⟩
  try go_simp
  refine hK.out _ _ (keep6 hS3 bn) (fun hS4 => ?_)
  clear bn hK hS3
  try simp only [Act.put, List.setIfInBounds_toArray, List.set_cons_zero, List.set_cons_succ]
  refine wpAnyH_take (i := 16) (oi := { dst := some 35, op := _, type := _, pos := _, after := _, guard := _ }) (v := .bool false) rfl (by kernel_rfl) (by kernel_rfl) (by kernel_rfl) (fun _ _ _ h => h) (Or.inl ⟨by rfl, fun w' hSw => (by (try dsimp only at hSw); go_simp)⟩) (by assumption) ?_
  try simp only [Act.put, List.setIfInBounds_toArray, List.set_cons_zero, List.set_cons_succ]
  refine wpAnyH_take (i := 17) (oi := { dst := some 36, op := _, type := _, pos := _, after := _, guard := _ }) (v := .bool false) rfl (by kernel_rfl) (by kernel_rfl) (by kernel_rfl) (fun _ _ _ h => h) (Or.inl ⟨by rfl, fun w' hSw => (by (try dsimp only at hSw); go_simp)⟩) (by assumption) ?_
  try simp only [Act.put, List.setIfInBounds_toArray, List.set_cons_zero, List.set_cons_succ]
  refine wpAnyH_take (i := 18) (oi := { dst := some 37, op := _, type := _, pos := _, after := _, guard := _ }) (v := .bool false) rfl (by kernel_rfl) (by kernel_rfl) (by kernel_rfl) (fun _ _ _ h => h) (Or.inl ⟨by rfl, fun w' hSw => (by (try dsimp only at hSw); go_simp)⟩) (by assumption) ?_
  try simp only [Act.put, List.setIfInBounds_toArray, List.set_cons_zero, List.set_cons_succ]
  refine wpAnyH_take (i := 19) (oi := { dst := some 38, op := _, type := _, pos := _, after := _, guard := _ }) (v := .agg #[.string M, .string O]) rfl (by kernel_rfl) (by kernel_rfl) (by kernel_rfl) (fun _ _ _ h => h) (Or.inl ⟨by rfl, fun w' hSw => (by (try dsimp only at hSw); go_simp)⟩) (by assumption) ?_
  try simp only [Act.put, List.setIfInBounds_toArray, List.set_cons_zero, List.set_cons_succ]
  refine wpAnyH_take (i := 20) (oi := { dst := some 39, op := _, type := _, pos := _, after := _, guard := _ }) (v := .string s) rfl (by kernel_rfl) (by kernel_rfl) (by kernel_rfl) (fun _ _ _ h => h) (Or.inl ⟨by rfl, fun w' hSw => (by (try dsimp only at hSw); go_simp)⟩) (by assumption) ?_
  try simp only [Act.put, List.setIfInBounds_toArray, List.set_cons_zero, List.set_cons_succ]
  refine wpAnyH_ready (rs := [21]) (by kernel_rfl) (by simp) ?_
  refine AllReadyH.cons rfl (fun K hK => ?_) AllReadyH.nil
  rw [if_pos (by rfl)]
  go_simp
  go_at_call 7
  refine (HH.out _).mono ?_; rintro e w5 ⟨rfl, bn⟩
  try go_simp
  refine hK.out _ _ (keep6 hS4 bn) (fun hS5 => ?_)
  clear bn hK hS4
  try simp only [Act.put, List.setIfInBounds_toArray, List.set_cons_zero, List.set_cons_succ]
  refine wpAnyH_take (i := 22) (oi := { dst := some 41, op := _, type := _, pos := _, after := _, guard := _ }) (v := .bool false) rfl (by kernel_rfl) (by kernel_rfl) (by kernel_rfl) (fun _ _ _ h => h) (Or.inl ⟨by rfl, fun w' hSw => (by (try dsimp only at hSw); go_simp)⟩) (by assumption) ?_
  try simp only [Act.put, List.setIfInBounds_toArray, List.set_cons_zero, List.set_cons_succ]
  refine wpAnyH_take (i := 23) (oi := { dst := some 42, op := _, type := _, pos := _, after := _, guard := _ }) (v := .bool false) rfl (by kernel_rfl) (by kernel_rfl) (by kernel_rfl) (fun _ _ _ h => h) (Or.inl ⟨by rfl, fun w' hSw => (by (try dsimp only at hSw); go_simp)⟩) (by assumption) ?_
  try simp only [Act.put, List.setIfInBounds_toArray, List.set_cons_zero, List.set_cons_succ]
  refine wpAnyH_done (by kernel_rfl) ?_ _
  obtain ⟨z0, rfl, rfl, hz0, hn0⟩ := iv_z HI0.out
  obtain ⟨z1, rfl, rfl, hz1, hn1⟩ := iv_z HI1.out
  have hzz : ZOk (z0 + z1) := zok_add (by rw [hn0, blen_le_iff]; exact Nat.lt_of_lt_of_le (nv_lt _) (Nat.pow_le_pow_right (by decide) hE.out.1)) (by rw [hn1, blen_le_iff]; exact Nat.lt_of_lt_of_le (nv_lt _) (Nat.pow_le_pow_right (by decide) hE.out.2))
  have hzn : ZOk (-z0) := by
    show blen (-z0).natAbs ≤ 128
    rw [Int.natAbs_neg]; exact hz0
  obtain ⟨hg, hvs, hel⟩ := hasB_ok HHB.out
  obtain ⟨hM, _, hm2, _⟩ := gE_ok hg
  have HX01 := Lib.hid (fun w => gExp_z HHB.out (z0 + z1) hzz w)
  have HXn := Lib.hid (fun w => gExp_z HHB.out (-z0) hzn w)
  have HX0 := Lib.hid (fun w => gExp_z HHB.out z0 hz0 w)
  have HP := Lib.hid (fun ao bo cl ce w a b => by
    have h := gProduct_any M O ao bo cl ce 2 2 [s, s] [(zb z0, zs z0), (zb z1, zs z1)] w a b rfl rfl (by decide) (by decide)
    rw [(gProd_z HHB.out z0 z1 hz0 hz1).1, (gProd_z HHB.out z0 z1 hz0 hz1).2] at h
    exact h)
  have HML := Lib.hid (fun w => by
    have h := gMul_any M O (enc (zp (nv M) (nv s) (-z0))) (enc (zp (nv M) (nv s) z0)) w
    have hgm := gm_ok hg (el_zp hm2 hel (-z0)) (el_zp hm2 hel z0)
    rw [hgm.1, hgm.2, zp_neg hm2 (el_unit hel) z0, enc_I] at h
    exact h)
  obtain ⟨S1, hS1⟩ : ∃ S, enc (zp (nv M) (nv s) (z0 + z1)) = S := ⟨_, rfl⟩
  obtain ⟨S2, hS2⟩ : ∃ S, enc (zp (nv M) (nv s) (-z0)) = S := ⟨_, rfl⟩
  obtain ⟨S3, hS3⟩ : ∃ S, enc (zp (nv M) (nv s) z0) = S := ⟨_, rfl⟩
  rw [hS1] at HX01 HP
  rw [hS2] at HXn HML
  rw [hS3] at HX0 HML
  have HZ := Lib.hid (And.intro hz0 (And.intro hz1 hzz))
  clear hS1 hS2 hS3 hz0 hz1 hzz hzn hg hvs hel hM hm2 hn0 hn1 HHB hE HI0 HI1 HFD HV0 HV1 HH c0 c1 d0 d1 d2 d3
  obtain ⟨c0, c1, d0, d1, d2, d3, hbn⟩ := hS5
  have hb5 := hb.trans (hbn.mono hb.size)
  have hD5 := hD.below hbn hD.lt
  clear hbn hb hD hG
  go_wp2_with fail
  refine (iadd_z z0 z1 _ HZ.out.1 HZ.out.2.1 HZ.out.2.2).mono ?_; rintro e w6 ⟨rfl, b6⟩
  have hD6 := hD5.below b6 hD5.lt
  have hb6 := hb5.trans (b6.mono hb5.size)
  have e0 := cell_keepB c0 b6
  have e1 := cell_keepB c1 b6
  clear c0 c1 d0 d1 d2 d3 hD5 hb5 b6
  have a0 := cell_keepB e0 (blwA w6 (.cells #[.bool (zb (z0 + z1)), .string (zs (z0 + z1))] 40))
  have a1 := cell_keepB e1 (blwA w6 (.cells #[.bool (zb (z0 + z1)), .string (zs (z0 + z1))] 40))
  have hZ := ZBox.new w6 (z0 + z1)
  have hzc0 := hZ.c0
  have hzc1 := hZ.c1
  have hb7 := hb6.trans ((blwA w6 (.cells #[.bool (zb (z0 + z1)), .string (zs (z0 + z1))] 40)).mono hb6.size)
  have hD7 := hD6.below (blwA w6 (.cells #[.bool (zb (z0 + z1)), .string (zs (z0 + z1))] 40)) hD6.lt
  clear hD6 hb6 e0 e1 hZ
  go_wp2_with fail
  clear hzc0 hzc1
  generalize World.alloc w6 _ = w7 at a0 a1 hb7 hD7 ⊢
  refine (HX01.out _).mono ?_; rintro e w8 ⟨rfl, b8⟩
  have hD8 := hD7.below b8 hD7.lt
  have hb8 := hb7.trans (b8.mono hb7.size)
  have c0 := cell_keepB a0 b8
  have c1 := cell_keepB a1 b8
  clear hD7 hb7 a0 a1 b8 HX01
  have d0 := hD8.c0
  have d1 := hD8.c1
  have d2 := hD8.c2
  have d3 := hD8.c3
  have hNd : NS ((w8.alloc (.cells #[.string s, .string s] 22)).drew) (some ⟨w8.heap.size, 0, none⟩) [s, s] := ns_two w8 s s
  have hId : IS ((w8.alloc (.cells #[.string s, .string s] 22)).drew) (some ⟨w.heap.size + 1, 0, none⟩) [(zb z0, zs z0), (zb z1, zs z1)] := (hD8.is).below (blwA w8 (.cells #[.string s, .string s] 22)).drew (Nat.le_refl _)
  have HPD := Lib.hid (HP.out _ _ 2 2 _ hNd hId)
  clear hNd hId HP
  go_wp2_with fail
  go_region_held3 (fun w' => w'.cell? ⟨w.heap.size, 0, none⟩ = some (.string M) ∧ w'.cell? ⟨w.heap.size, 1, none⟩ = some (.string O) ∧ w'.cell? ⟨w.heap.size + 1, 0, none⟩ = some (.bool (zb z0)) ∧ w'.cell? ⟨w.heap.size + 1, 1, none⟩ = some (.string (zs z0)) ∧ w'.cell? ⟨w.heap.size + 1, 2, none⟩ = some (.bool (zb z1)) ∧ w'.cell? ⟨w.heap.size + 1, 3, none⟩ = some (.string (zs z1)) ∧ Below w8.heap.size w8 w') (first | exact ⟨c0, c1, d0, d1, d2, d3, (Below.refl _ w8).drew⟩ | (refine keep6 ?_ bn; assumption) | exact keep6 ⟨c0, c1, d0, d1, d2, d3, Below.refl _ w8⟩ (blwA w8 _).drew) (first | (go_at_call 15; (with_reducible refine (HPD.out).mono ?_); rintro e wn ⟨rfl, bn⟩))
  clear c0 c1 d0 d1 d2 d3 HPD
  go_split_ands
  have hbn : Below w8.heap.size w8 wn := by assumption
  have hD9 := hD8.below hbn hD8.lt
  have hb9 := hb8.trans (hbn.mono hb8.size)
  have c0 : wn.cell? ⟨w.heap.size, 0, none⟩ = some (.string M) := by assumption
  have c1 : wn.cell? ⟨w.heap.size, 1, none⟩ = some (.string O) := by assumption
  clear hD8 hb8 hbn bn
  have d0 := hD9.c0
  have d1 := hD9.c1
  have d2 := hD9.c2
  have d3 := hD9.c3
  have HN := Lib.hid (fun w => neg_z z0 w HZ.out.1)
  go_wp2_with fail
  go_region_held3 (fun w' => w'.cell? ⟨w.heap.size, 0, none⟩ = some (.string M) ∧ w'.cell? ⟨w.heap.size, 1, none⟩ = some (.string O) ∧ w'.cell? ⟨w.heap.size + 1, 0, none⟩ = some (.bool (zb z0)) ∧ w'.cell? ⟨w.heap.size + 1, 1, none⟩ = some (.string (zs z0)) ∧ w'.cell? ⟨w.heap.size + 1, 2, none⟩ = some (.bool (zb z1)) ∧ w'.cell? ⟨w.heap.size + 1, 3, none⟩ = some (.string (zs z1)) ∧ Below wn.heap.size wn w') (first | exact ⟨c0, c1, d0, d1, d2, d3, (Below.refl _ wn).drew⟩ | (refine keep6 ?_ bm; assumption)) (first | (go_at_call 19; (with_reducible refine (HN.out _).mono ?_); rintro e wm ⟨rfl, bm⟩) | (go_at_call 12; (with_reducible refine (HXn.out _).mono ?_); rintro e wo ⟨rfl, bm⟩))
  clear c0 c1 d0 d1 d2 d3 HN HXn
  go_split_ands
  have hbn : Below wn.heap.size wn wo := by assumption
  have hD10 := hD9.below hbn hD9.lt
  have hb10 := hb9.trans (hbn.mono hb9.size)
  have c0 : wo.cell? ⟨w.heap.size, 0, none⟩ = some (.string M) := by assumption
  have c1 : wo.cell? ⟨w.heap.size, 1, none⟩ = some (.string O) := by assumption
  clear hD9 hb9 hbn
  have d0 := hD10.c0
  have d1 := hD10.c1
  have d2 := hD10.c2
  have d3 := hD10.c3
  go_wp2_with fail
  refine (HX0.out _).mono ?_; rintro e wp ⟨rfl, bp⟩
  have hb11 := hb10.trans (bp.mono hb10.size)
  have e0 := cell_keepB c0 bp
  have e1 := cell_keepB c1 bp
  clear c0 c1 d0 d1 d2 d3 hD10 hb10 bp HX0
  go_wp2_with fail
  refine (HML.out _).mono ?_; rintro e wq ⟨rfl, bq⟩
  have hb12 := hb11.trans (bq.mono hb11.size)
  clear e0 e1 hb11 bq HML
  go_wp2_with fail
  refine (awakeG _).mono ?_; rintro e wa ⟨rfl, ba⟩
  go_wp2_with fail
  go_ret
  exact ⟨rfl, hb12.trans (ba.mono hb12.size)⟩
end Go.Proofs.Ytmbenndmkacjpaa
