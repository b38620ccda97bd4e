/- dominolaw13: the examples. -/
import Derived.Test.YtmbenndmkacjpaaPwF
namespace Go.Proofs.Ytmbenndmkacjpaa
open Go.RowKit Num
set_option maxRecDepth 20000
set_option linter.unusedVariables false
theorem prod2 (M O x y : ByteArray) (n1 n2 : Bool) (t1 t2 : ByteArray) (w0 : World) (p q : Nat) (hp : w0.heap.size = p) (hq : q = p + 1) :
    Calls Try.prog 15 #[.agg #[.string M, .string O], .slice (some ⟨p, 0, none⟩) 2 2, .slice (some ⟨q, 0, none⟩) 2 2] ((w0.alloc (.cells #[.string x, .string y] 22)).alloc (.cells #[.bool n1, .string t1, .bool n2, .string t2] 40))
      fun e w' => e = .returned (.tuple #[.string (gpS M O [x, y] [(n1, t1), (n2, t2)]), .int .i64 (gpE M O [x, y] [(n1, t1), (n2, t2)])]) ∧ Below p w0 w' := by
  subst hp
  subst hq
  have hN := (ns_two w0 x y).below ((Below.refl _ _).alloc (Nat.le_refl _) (.cells #[.bool n1, .string t1, .bool n2, .string t2] 40)) (Nat.le_refl _)
  have hI := is_two (w0.alloc (.cells #[.string x, .string y] 22)) n1 n2 t1 t2
  rw [World.size_alloc] at hI
  have hb := ((Below.refl w0.heap.size w0).alloc (Nat.le_refl _) (.cells #[.string x, .string y] 22)).alloc (by simp) (.cells #[.bool n1, .string t1, .bool n2, .string t2] 40)
  exact (gProduct_any M O _ _ 2 2 2 2 [x, y] [(n1, t1), (n2, t2)] _ hN hI rfl rfl (by omega) (by omega)).mono fun e w' ⟨h1, h2⟩ => ⟨h1, hb.trans (h2.mono (by simp; omega))⟩
theorem k_p1 : gpS ⟨#[23]⟩ ⟨#[11]⟩ [⟨#[4]⟩, ⟨#[3]⟩] [(false, ⟨#[2]⟩), (true, ⟨#[1]⟩)] = ⟨#[13]⟩ := by decide +kernel
theorem k_e1 : gpE ⟨#[23]⟩ ⟨#[11]⟩ [⟨#[4]⟩, ⟨#[3]⟩] [(false, ⟨#[2]⟩), (true, ⟨#[1]⟩)] = 0 := by decide +kernel
theorem k_p2 : gpS ⟨#[23]⟩ ⟨#[11]⟩ [⟨#[2]⟩] [(true, ⟨#[3]⟩)] = ⟨#[3]⟩ := by decide +kernel
theorem k_e2 : gpE ⟨#[23]⟩ ⟨#[11]⟩ [⟨#[2]⟩] [(true, ⟨#[3]⟩)] = 0 := by decide +kernel
theorem k_p3 : gpS ⟨#[77]⟩ ⟨#[]⟩ [⟨#[5]⟩, ⟨#[2]⟩] [(false, ⟨#[2]⟩), (false, ⟨#[3]⟩)] = ⟨#[46]⟩ := by decide +kernel
theorem k_e3 : gpE ⟨#[77]⟩ ⟨#[]⟩ [⟨#[5]⟩, ⟨#[2]⟩] [(false, ⟨#[2]⟩), (false, ⟨#[3]⟩)] = 0 := by decide +kernel
theorem k_nt : ntE ⟨#[77]⟩ ⟨#[]⟩ ⟨#[5]⟩ 8 = 0 := by decide +kernel
theorem k_nv : nv ⟨#[77]⟩ = 77 ∧ nv ⟨#[5]⟩ = 5 := by decide +kernel
theorem k_t : enc (5 ^ 2 % 77) = ⟨#[25]⟩ := by decide +kernel
theorem k_h5 : hasB ⟨#[77]⟩ ⟨#[]⟩ ⟨#[5]⟩ = true := by decide +kernel
theorem k_h7 : hasB ⟨#[77]⟩ ⟨#[]⟩ ⟨#[7]⟩ = false := by decide +kernel
theorem k_g8 : gE ⟨#[8]⟩ ⟨#[]⟩ = 13 := by decide +kernel
theorem isN77 : IsN ⟨#[77]⟩ 77 := ⟨by decide +kernel, by decide +kernel⟩
theorem isNII : IsN ⟨#[2]⟩ 2 := ⟨by decide +kernel, by decide +kernel⟩
theorem nt77 (w : World) : Calls Try.prog 9 #[.agg #[.string ⟨#[77]⟩, .string ⟨#[]⟩], .string ⟨#[5]⟩, .int .i64 8] w (NTP ⟨#[77]⟩ 8 77 5 2 w) := by
  have h := newTable_ok ⟨#[77]⟩ ⟨#[]⟩ ⟨#[5]⟩ 8 w k_nt
  rw [k_nv.1, k_nv.2] at h
  exact h
set_option maxHeartbeats 8000000 in
theorem awakeG (w : World) : Calls Try.prog 8 #[] w fun e w' => e = .returned (.bool true) ∧ Below w.heap.size w w' := by
  have hG := (GB.new w ⟨#[23]⟩ ⟨#[11]⟩).alloc (.cells #[.string ⟨#[77]⟩, .string ⟨#[]⟩] 24)
  have hH := GB.new (w.alloc (.cells #[.string ⟨#[23]⟩, .string ⟨#[11]⟩] 24)) ⟨#[77]⟩ ⟨#[]⟩
  rw [World.size_alloc] at hH
  have hb := ((Below.refl w.heap.size w).alloc (Nat.le_refl _) (.cells #[.string ⟨#[23]⟩, .string ⟨#[11]⟩] 24)).alloc (by simp) (.cells #[.string ⟨#[77]⟩, .string ⟨#[]⟩] 24)
  go_enter Try.func8, Try.ntmps8
  go_wp2_with fail
  have hz : ((w.alloc (.cells #[.string ⟨#[23]⟩, .string ⟨#[11]⟩] 24)).alloc (.cells #[.string ⟨#[77]⟩, .string ⟨#[]⟩] 24)).heap.size = w.heap.size + 2 := by simp
  generalize World.alloc (World.alloc w _) _ = w0 at hG hH hb hz ⊢
  refine (prod2 _ _ _ _ _ _ _ _ w0 _ _ hz rfl).mono ?_
  rw [k_p1, k_e1]; rintro e w1 ⟨rfl, b1⟩
  have G1 := hG.below b1 (by omega)
  have H1 := hH.below b1 (by omega)
  have hb1 := hb.trans (b1.mono (by omega))
  clear hG hH hb hz b1
  have c0 := G1.c0
  have c1 := G1.c1
  go_wp2_with fail
  refine (gExp_any _ _ _ _ _ _).mono ?_
  rw [k_p2, k_e2]; rintro e w2 ⟨rfl, b2⟩
  have H2 := H1.below b2 H1.lt
  have hb2 := hb1.trans (b2.mono hb1.size)
  clear G1 H1 c0 c1 hb1 b2
  have c0 := H2.c0
  have c1 := H2.c1
  go_wp2_with fail
  refine (prod2 _ _ _ _ _ _ _ _ w2 _ _ rfl rfl).mono ?_
  rw [k_p3, k_e3]; rintro e w3 ⟨rfl, b3⟩
  have H3 := H2.below b3 H2.lt
  have hb3 := hb2.trans (b3.mono hb2.size)
  clear H2 c0 c1 hb2 b3
  have c0 := H3.c0
  have c1 := H3.c1
  go_wp2_with fail
  refine (nt77 _).mono ?_
  rintro e w4 ⟨v, rfl, htb, b4⟩
  have H4 := H3.below b4 H3.lt
  have hb4 := hb3.trans (b4.mono hb3.size)
  clear H3 c0 c1 hb3 b4
  obtain ⟨ao, cc, rfl, _⟩ := htb.open'
  go_wp2_with fail
  have hA := (Below.refl w4.heap.size w4).alloc (Nat.le_refl _) (.cells #[.string ⟨#[77]⟩, .int .i64 8, .slice ao 2 cc] 31)
  have htb5 := htb.below hA
  have H5 := H4.below hA H4.lt
  have hb5 := hb4.trans (hA.mono hb4.size)
  clear htb H4 hb4 hA
  generalize w4.alloc _ = w5 at htb5 H5 hb5 ⊢
  refine (tabExp_ok ⟨#[77]⟩ ⟨#[2]⟩ 8 77 5 2 2 _ _ isN77 (by omega) isNII (by decide +kernel) (by omega) rfl htb5).mono ?_
  rw [k_t]; rintro e w6 ⟨rfl, b6⟩
  have H6 := H5.below b6 H5.lt
  have hb6 := hb5.trans (b6.mono hb5.size)
  clear H5 hb5 b6 htb5
  have c0 := H6.c0
  have c1 := H6.c1
  go_wp2_with fail
  refine (gHas_any _ _ _ _).mono ?_
  rw [k_h5]; rintro e w7 ⟨rfl, b7⟩
  have H7 := H6.below b7 H6.lt
  have hb7 := hb6.trans (b7.mono hb6.size)
  clear H6 c0 c1 hb6 b7
  have c0 := H7.c0
  have c1 := H7.c1
  go_wp2_with fail
  refine (gHas_any _ _ _ _).mono ?_
  rw [k_h7]; rintro e w8 ⟨rfl, b8⟩
  have hb8 := hb7.trans (b8.mono hb7.size)
  clear H7 c0 c1 hb7 b8
  go_wp2_with fail
  refine (gCheck_any _ _ _).mono ?_
  rw [k_g8]; rintro e w9 ⟨rfl, b9⟩
  have hb9 := hb8.trans (b9.mono hb8.size)
  go_wp2_with fail
  go_ret
  exact ⟨rfl, hb9⟩
end Go.Proofs.Ytmbenndmkacjpaa
