import Derived.Test.YtcjbbneiobnmkaaGreatPwC
import Derived.Deep.RegionHeld3
/- dominolaw13: Few and the examples. -/
namespace Go.Proofs.YtcjbbneiobnmkaaGreat
open Go.RowKit Num
set_option maxRecDepth 20000
set_option linter.unusedVariables false
theorem is_two (w : World) (n1 n2 : Bool) (t1 t2 : ByteArray) : IS (w.alloc (.cells #[.bool n1, .string t1, .bool n2, .string t2] 32)) (some ⟨w.heap.size, 0, none⟩) [(n1, t1), (n2, t2)] := by
  intro k hk
  match k, hk with
  | 0, _ => exact ⟨_, _, rfl, by rw [Lib.cell_of_heap (heap_alloc_new w _)]; rfl, by rw [Lib.cell_of_heap (heap_alloc_new w _)]; rfl⟩
  | 1, _ => exact ⟨_, _, rfl, by rw [Lib.cell_of_heap (heap_alloc_new w _)]; rfl, by rw [Lib.cell_of_heap (heap_alloc_new w _)]; rfl⟩
def few9 (M O : ByteArray) (l : List ByteArray) : Bool := l.all (fun x => decide (x.size ≤ 20)) && decide (M.size ≤ 8 ∧ O.size ≤ 10)
theorem few9_any (M O : ByteArray) (ao : Option Addr) (cl n : Nat) (l : List ByteArray) (w : World) (hl : NS w ao l) (hn : l.length = n) (h1 : n ≤ maxLen) (h2 : ∀ x ∈ l, x.size ≤ maxLen) :
    Calls Tryz.prog 14 #[.agg #[.string M, .string O], .slice ao n cl] w fun e w' => e = .returned (.bool (few9 M O l)) ∧ Below w.heap.size w w' := by
  unfold maxLen at h1 h2
  have hb := (Below.refl _ w).alloc (Nat.le_refl _) (.cells #[.string M, .string O] 24)
  have hG := GB.new w M O
  have HH2 := Lib.hid h2
  clear h2
  go_enter Tryz.func14, Tryz.ntmps14
  go_wp2_with fail
  have HL := Lib.hid (hl.below hb (Nat.le_refl _))
  generalize w.alloc _ = w0 at hb hG HL ⊢
  clear hl
  have c0 := hG.c0
  have c1 := hG.c1
  have HN := Lib.hid hn
  clear hn
  go_loop [5] (fun i => ∃ k : Nat, k ≤ n ∧ i = .int .i64 k ∧ Hid (∀ j (hj : j < l.length), j < k → l[j].size ≤ 20)) (fun i => n - (intOf i).toNat)
  case atStart => exact ⟨0, by omega, rfl, fun j _ h => by omega⟩
  case round =>
    obtain ⟨k, hk, rfl, hv⟩ := hrel
    by_cases hlt : k < n
    · have hkl : k < l.length := by rw [HN.out]; exact hlt
      obtain ⟨b, off, rfl, hc⟩ := HL.out k hkl
      have hsz := HH2.out _ (List.getElem_mem hkl)
      by_cases hval : l[k].size ≤ 20
      · go_wp2_with fail
        go_round
        case rel => exact ⟨k + 1, by omega, by go_num, fun j hj hjk => by
          by_cases e : j = k
          · subst e; exact hval
          · exact hv.out j hj (by omega)⟩
        case measure => simp [intOf]; omega
      · have HR : Hid (few9 M O l = false) := by
          show _ = _
          unfold few9
          rw [Bool.and_eq_false_iff]
          refine .inl ?_
          rw [List.all_eq_false]
          exact ⟨_, List.getElem_mem hkl, by simpa using hval⟩
        go_wp2_with fail
        go_ret
        exact ⟨ret_bool HR.out.symm, hb⟩
    · obtain rfl : k = n := by omega
      have ha : l.all (fun x => decide (x.size ≤ 20)) = true := all_of fun j hj => decide_eq_true (hv.out j hj (by have := HN.out; omega))
      have hr : few9 M O l = decide (M.size ≤ 8 ∧ O.size ≤ 10) := by unfold few9; rw [ha, Bool.true_and]
      have HR := Lib.hid hr
      clear hv ha hr hlt
      by_cases h8 : M.size ≤ 8
      · by_cases h10 : O.size ≤ 10
        · have HF := Lib.hid (HR.out.trans (decide_eq_true ⟨h8, h10⟩))
          go_wp2_with fail
          go_ret
          exact ⟨ret_bool ((decide_eq_true (by omega)).trans HF.out.symm), hb⟩
        · have HF := Lib.hid (HR.out.trans (decide_eq_false fun h => h10 h.2))
          go_wp2_with fail
          go_ret
          exact ⟨ret_bool ((decide_eq_false (by omega)).trans HF.out.symm), hb⟩
      · have HF := Lib.hid (HR.out.trans (decide_eq_false fun h => h8 h.1))
        go_wp2_with fail
        go_ret
        exact ⟨ret_bool HF.out.symm, hb⟩
def few13 (M O : ByteArray) (l : List ByteArray) (es : List (Bool × ByteArray)) : Bool := (es.take 10).all (fun e => decide (e.2.size ≤ 20)) && (decide (l.length ≤ 8) && (decide (es.length ≤ 8) && few9 M O l))
set_option maxHeartbeats 4000000 in
theorem few13_any (M O : ByteArray) (ao bo : Option Addr) (cl ce n1 n2 : Nat) (l : List ByteArray) (es : List (Bool × ByteArray)) (w : World) (hl : NS w ao l) (he : IS w bo es) (hn1 : l.length = n1) (hn2 : es.length = n2) (h1 : n1 ≤ maxLen) (h2 : n2 ≤ maxLen) (h3 : ∀ x ∈ l, x.size ≤ maxLen) (h4 : ∀ x ∈ es, x.2.size ≤ maxLen) :
    Calls Tryz.prog 22 #[.agg #[.string M, .string O], .slice ao n1 cl, .slice bo n2 ce] w fun e w' => e = .returned (.bool (few13 M O l es)) ∧ Below w.heap.size w w' := by
  have h1' := h1
  unfold maxLen at h1' h2 h4
  have hb := (Below.refl _ w).alloc (Nat.le_refl _) (.cells #[.string M, .string O] 24)
  have hG := GB.new w M O
  have HH4 := Lib.hid h4
  have HF9 := Lib.hid (fun w (h : NS w ao l) => few9_any M O ao cl n1 l w h hn1 h1 h3)
  clear h4 h1 h3
  go_enter Tryz.func22, Tryz.ntmps22
  go_wp2_with fail
  have HE := Lib.hid (he.below hb (Nat.le_refl _))
  have HL := Lib.hid (hl.below hb (Nat.le_refl _))
  generalize w.alloc _ = w0 at hb hG HL HE ⊢
  clear hl he
  have c0 := hG.c0
  have c1 := hG.c1
  have HN := Lib.hid (And.intro hn1 hn2)
  clear hn1 hn2
  go_loop [7] (fun i => ∃ k : Nat, k ≤ n2 ∧ k ≤ 10 ∧ i = .int .i64 k ∧ Hid (∀ j (hj : j < es.length), j < k → es[j].2.size ≤ 20)) (fun i => n2 - (intOf i).toNat)
  case atStart => exact ⟨0, by omega, by omega, rfl, fun j _ h => by omega⟩
  case round =>
    obtain ⟨k, hk, hk10, rfl, hv⟩ := hrel
    by_cases hlt : k < n2 ∧ k < 10
    · obtain ⟨hlt, hlt2⟩ := hlt
      have hkl : k < es.length := by rw [HN.out.2]; exact hlt
      obtain ⟨b, off, rfl, _, hc⟩ := HE.out k hkl
      have hsz := HH4.out _ (List.getElem_mem hkl)
      by_cases hval : es[k].2.size ≤ 20
      · go_wp2_with fail
        go_round
        case rel => exact ⟨k + 1, by omega, by omega, by go_num, fun j hj hjk => by
          by_cases e : j = k
          · subst e; exact hval
          · exact hv.out j hj (by omega)⟩
        case measure => simp [intOf]; omega
      · have HR : Hid (few13 M O l es = false) := by
          show _ = _
          unfold few13
          rw [Bool.and_eq_false_iff]
          refine .inl ?_
          rw [List.all_eq_false]
          exact ⟨es[k], List.mem_take_iff_getElem.2 ⟨k, by omega, rfl⟩, by simpa using hval⟩
        go_wp2_with fail
        go_ret
        exact ⟨ret_bool HR.out.symm, hb⟩
    · have ha : (es.take 10).all (fun e => decide (e.2.size ≤ 20)) = true := by
        rw [List.all_eq_true]
        intro x hx
        obtain ⟨j, hj, rfl⟩ := List.mem_take_iff_getElem.1 hx
        exact decide_eq_true (hv.out j (by omega) (by have := HN.out.2; omega))
      have hr : few13 M O l es = (decide (l.length ≤ 8) && (decide (es.length ≤ 8) && few9 M O l)) := by unfold few13; rw [ha, Bool.true_and]
      rw [HN.out.1, HN.out.2] at hr
      have HR := Lib.hid hr
      clear hv ha hr
      have hex : (n2 ≤ k) ∨ (k < n2 ∧ 10 ≤ k) := by omega
      by_cases a1 : n1 ≤ 8
      · by_cases a2 : n2 ≤ 8
        · have hk2 : k = n2 := by omega
          subst hk2
          have HF := Lib.hid (show few13 M O l es = few9 M O l by rw [HR.out, decide_eq_true a1, decide_eq_true a2]; rfl)
          clear hlt hex
          go_wp2_with fail
          refine (HF9.out _ HL.out).mono ?_; rintro e w2 ⟨rfl, b2⟩
          go_wp2_with fail
          go_ret
          exact ⟨ret_bool HF.out.symm, hb.trans (b2.mono hb.size)⟩
        · have HF := Lib.hid (show few13 M O l es = false by rw [HR.out, decide_eq_false a2, Bool.false_and, Bool.and_false])
          rcases hex with hex | ⟨hx1, hx2⟩
          · clear hlt
            go_wp2_with fail
            go_ret
            exact ⟨ret_bool HF.out.symm, hb⟩
          · clear hlt
            go_wp2_with fail
            go_ret
            exact ⟨ret_bool HF.out.symm, hb⟩
      · have HF := Lib.hid (show few13 M O l es = false by rw [HR.out, decide_eq_false a1, Bool.false_and])
        rcases hex with hex | ⟨hx1, hx2⟩
        · clear hlt
          go_wp2_with fail
          go_ret
          exact ⟨ret_bool HF.out.symm, hb⟩
        · clear hlt
          go_wp2_with fail
          go_ret
          exact ⟨ret_bool HF.out.symm, hb⟩
end Go.Proofs.YtcjbbneiobnmkaaGreat

/- dominolaw13: the examples. -/
namespace Go.Proofs.YtcjbbneiobnmkaaGreat
open Go.RowKit Num
set_option maxRecDepth 20000
set_option linter.unusedVariables false
theorem prod2 (M O x y : ByteArray) (n1 n2 : Bool) (t1 t2 : ByteArray) (w0 : World) (p q : Nat) (hp : w0.heap.size = p) (hq : q = p + 1) :
    Calls Tryz.prog 23 #[.agg #[.string M, .string O], .slice (some ⟨p, 0, none⟩) 2 2, .slice (some ⟨q, 0, none⟩) 2 2] ((w0.alloc (.cells #[.string x, .string y] 22)).alloc (.cells #[.bool n1, .string t1, .bool n2, .string t2] 32))
      fun e w' => e = .returned (.tuple #[.string (gpS M O [x, y] [(n1, t1), (n2, t2)]), .int .i64 (gpE M O [x, y] [(n1, t1), (n2, t2)])]) ∧ Below p w0 w' := by
  subst hp
  subst hq
  have hN := (ns_two w0 x y).below ((Below.refl _ _).alloc (Nat.le_refl _) (.cells #[.bool n1, .string t1, .bool n2, .string t2] 32)) (Nat.le_refl _)
  have hI := is_two (w0.alloc (.cells #[.string x, .string y] 22)) n1 n2 t1 t2
  rw [World.size_alloc] at hI
  have hb := ((Below.refl w0.heap.size w0).alloc (Nat.le_refl _) (.cells #[.string x, .string y] 22)).alloc (by simp) (.cells #[.bool n1, .string t1, .bool n2, .string t2] 32)
  exact (gProduct_any M O _ _ 2 2 2 2 [x, y] [(n1, t1), (n2, t2)] _ hN hI rfl rfl (by omega) (by omega)).mono fun e w' ⟨h1, h2⟩ => ⟨h1, hb.trans (h2.mono (by simp; omega))⟩
theorem k_p1 : gpS ⟨#[23]⟩ ⟨#[11]⟩ [⟨#[4]⟩, ⟨#[3]⟩] [(false, ⟨#[2]⟩), (true, ⟨#[1]⟩)] = ⟨#[13]⟩ := by decide +kernel
theorem k_e1 : gpE ⟨#[23]⟩ ⟨#[11]⟩ [⟨#[4]⟩, ⟨#[3]⟩] [(false, ⟨#[2]⟩), (true, ⟨#[1]⟩)] = 0 := by decide +kernel
theorem k_p2 : gpS ⟨#[23]⟩ ⟨#[11]⟩ [⟨#[2]⟩] [(true, ⟨#[3]⟩)] = ⟨#[3]⟩ := by decide +kernel
theorem k_e2 : gpE ⟨#[23]⟩ ⟨#[11]⟩ [⟨#[2]⟩] [(true, ⟨#[3]⟩)] = 0 := by decide +kernel
theorem k_p3 : gpS ⟨#[77]⟩ ⟨#[]⟩ [⟨#[5]⟩, ⟨#[2]⟩] [(false, ⟨#[2]⟩), (false, ⟨#[3]⟩)] = ⟨#[46]⟩ := by decide +kernel
theorem k_e3 : gpE ⟨#[77]⟩ ⟨#[]⟩ [⟨#[5]⟩, ⟨#[2]⟩] [(false, ⟨#[2]⟩), (false, ⟨#[3]⟩)] = 0 := by decide +kernel
theorem k_nt : ntE ⟨#[77]⟩ ⟨#[]⟩ ⟨#[5]⟩ 8 = 0 := by decide +kernel
theorem k_nv : nv ⟨#[77]⟩ = 77 ∧ nv ⟨#[5]⟩ = 5 := by decide +kernel
theorem k_t : enc (5 ^ 2 % 77) = ⟨#[25]⟩ := by decide +kernel
theorem k_h5 : hasB ⟨#[77]⟩ ⟨#[]⟩ ⟨#[5]⟩ = true := by decide +kernel
theorem k_h7 : hasB ⟨#[77]⟩ ⟨#[]⟩ ⟨#[7]⟩ = false := by decide +kernel
theorem k_g8 : gE ⟨#[8]⟩ ⟨#[]⟩ = 13 := by decide +kernel
theorem isN77 : IsN ⟨#[77]⟩ 77 := ⟨by decide +kernel, by decide +kernel⟩
theorem isNII : IsN ⟨#[2]⟩ 2 := ⟨by decide +kernel, by decide +kernel⟩
theorem nt77 (w : World) : Calls Tryz.prog 25 #[.agg #[.string ⟨#[77]⟩, .string ⟨#[]⟩], .string ⟨#[5]⟩, .int .i64 8] w (NTP ⟨#[77]⟩ 8 77 5 2 w) := by
  have h := newTable_ok ⟨#[77]⟩ ⟨#[]⟩ ⟨#[5]⟩ 8 w k_nt
  rw [k_nv.1, k_nv.2] at h
  exact h
set_option maxHeartbeats 8000000 in
theorem awakeG (w : World) : Calls Tryz.prog 15 #[] w fun e w' => e = .returned (.bool true) ∧ Below w.heap.size w w' := by
  have hG := (GB.new w ⟨#[23]⟩ ⟨#[11]⟩).alloc (.cells #[.string ⟨#[77]⟩, .string ⟨#[]⟩] 24)
  have hH := GB.new (w.alloc (.cells #[.string ⟨#[23]⟩, .string ⟨#[11]⟩] 24)) ⟨#[77]⟩ ⟨#[]⟩
  rw [World.size_alloc] at hH
  have hb := ((Below.refl w.heap.size w).alloc (Nat.le_refl _) (.cells #[.string ⟨#[23]⟩, .string ⟨#[11]⟩] 24)).alloc (by simp) (.cells #[.string ⟨#[77]⟩, .string ⟨#[]⟩] 24)
  go_enter Tryz.func15, Tryz.ntmps15
  go_wp2_with fail
  have hz : ((w.alloc (.cells #[.string ⟨#[23]⟩, .string ⟨#[11]⟩] 24)).alloc (.cells #[.string ⟨#[77]⟩, .string ⟨#[]⟩] 24)).heap.size = w.heap.size + 2 := by simp
  generalize World.alloc (World.alloc w _) _ = w0 at hG hH hb hz ⊢
  refine (prod2 _ _ _ _ _ _ _ _ w0 _ _ hz rfl).mono ?_
  rw [k_p1, k_e1]; rintro e w1 ⟨rfl, b1⟩
  have G1 := hG.below b1 (by omega)
  have H1 := hH.below b1 (by omega)
  have hb1 := hb.trans (b1.mono (by omega))
  clear hG hH hb hz b1
  have c0 := G1.c0
  have c1 := G1.c1
  go_wp2_with fail
  refine (gExp_any _ _ _ _ _ _).mono ?_
  rw [k_p2, k_e2]; rintro e w2 ⟨rfl, b2⟩
  have H2 := H1.below b2 H1.lt
  have hb2 := hb1.trans (b2.mono hb1.size)
  clear G1 H1 c0 c1 hb1 b2
  have c0 := H2.c0
  have c1 := H2.c1
  go_wp2_with fail
  refine (prod2 _ _ _ _ _ _ _ _ w2 _ _ rfl rfl).mono ?_
  rw [k_p3, k_e3]; rintro e w3 ⟨rfl, b3⟩
  have H3 := H2.below b3 H2.lt
  have hb3 := hb2.trans (b3.mono hb2.size)
  clear H2 c0 c1 hb2 b3
  have c0 := H3.c0
  have c1 := H3.c1
  go_wp2_with fail
  refine (nt77 _).mono ?_
  rintro e w4 ⟨v, rfl, htb, b4⟩
  have H4 := H3.below b4 H3.lt
  have hb4 := hb3.trans (b4.mono hb3.size)
  clear H3 c0 c1 hb3 b4
  obtain ⟨ao, cc, rfl, _⟩ := htb.open'
  go_wp2_with fail
  have hA := (Below.refl w4.heap.size w4).alloc (Nat.le_refl _) (.cells #[.string ⟨#[77]⟩, .int .i64 8, .slice ao 2 cc] 46)
  have htb5 := htb.below hA
  have H5 := H4.below hA H4.lt
  have hb5 := hb4.trans (hA.mono hb4.size)
  clear htb H4 hb4 hA
  generalize w4.alloc _ = w5 at htb5 H5 hb5 ⊢
  refine (tabExp_ok ⟨#[77]⟩ ⟨#[2]⟩ 8 77 5 2 2 _ _ isN77 (by omega) isNII (by decide +kernel) (by omega) rfl htb5).mono ?_
  rw [k_t]; rintro e w6 ⟨rfl, b6⟩
  have H6 := H5.below b6 H5.lt
  have hb6 := hb5.trans (b6.mono hb5.size)
  clear H5 hb5 b6 htb5
  have c0 := H6.c0
  have c1 := H6.c1
  go_wp2_with fail
  refine (gHas_any _ _ _ _).mono ?_
  rw [k_h5]; rintro e w7 ⟨rfl, b7⟩
  have H7 := H6.below b7 H6.lt
  have hb7 := hb6.trans (b7.mono hb6.size)
  clear H6 c0 c1 hb6 b7
  have c0 := H7.c0
  have c1 := H7.c1
  go_wp2_with fail
  refine (gHas_any _ _ _ _).mono ?_
  rw [k_h7]; rintro e w8 ⟨rfl, b8⟩
  have hb8 := hb7.trans (b8.mono hb7.size)
  clear H7 c0 c1 hb7 b8
  go_wp2_with fail
  refine (gCheck_any _ _ _).mono ?_
  rw [k_g8]; rintro e w9 ⟨rfl, b9⟩
  have hb9 := hb8.trans (b9.mono hb8.size)
  go_wp2_with fail
  go_ret
  exact ⟨rfl, hb9⟩
end Go.Proofs.YtcjbbneiobnmkaaGreat

/- dominolaw13: the law Looks. -/
namespace Go.Proofs.YtcjbbneiobnmkaaGreat
open Go.RowKit Num
set_option maxRecDepth 20000
set_option linter.unusedVariables false
theorem cell_keepB {w w' : World} {a : Addr} {v : Value} (h : w.cell? a = some v) (hb : Below w.heap.size w w') : w'.cell? a = some v := (hb.cell (p := a) (World.block_lt_of_cell? w a h)).trans h
theorem keep3 {w1 w2 w3 : World} {a1 a2 a3 : Addr} {v1 v2 v3 : Value} (h : w2.cell? a1 = some v1 ∧ w2.cell? a2 = some v2 ∧ w2.cell? a3 = some v3 ∧ Below w1.heap.size w1 w2) (b : Below w2.heap.size w2 w3) :
    w3.cell? a1 = some v1 ∧ w3.cell? a2 = some v2 ∧ w3.cell? a3 = some v3 ∧ Below w1.heap.size w1 w3 :=
  ⟨cell_keepB h.1 b, cell_keepB h.2.1 b, cell_keepB h.2.2.1 b, h.2.2.2.trans (b.mono h.2.2.2.size)⟩
theorem keep4 {w1 w2 w3 : World} {a1 a2 a3 a4 : Addr} {v1 v2 v3 v4 : Value} (h : w2.cell? a1 = some v1 ∧ w2.cell? a2 = some v2 ∧ w2.cell? a3 = some v3 ∧ w2.cell? a4 = some v4 ∧ Below w1.heap.size w1 w2) (b : Below w2.heap.size w2 w3) :
    w3.cell? a1 = some v1 ∧ w3.cell? a2 = some v2 ∧ w3.cell? a3 = some v3 ∧ w3.cell? a4 = some v4 ∧ Below w1.heap.size w1 w3 :=
  ⟨cell_keepB h.1 b, cell_keepB h.2.1 b, cell_keepB h.2.2.1 b, cell_keepB h.2.2.2.1 b, h.2.2.2.2.trans (b.mono h.2.2.2.2.size)⟩
theorem hasB_ok {M O s : ByteArray} (h : hasB M O s = true) : gE M O = 0 ∧ validB s = true ∧ elN (nv M) (nv O) (nv s) = true := by
  unfold hasB at h
  rw [Bool.and_eq_true, Bool.and_eq_true, decide_eq_true_eq] at h
  exact ⟨h.1, h.2.1, h.2.2⟩
theorem gpE_one {M O s t : ByteArray} {ng : Bool} (h : hasB M O s = true) (ht : ivB (ng, t) = true) : gpE M O [s] [(ng, t)] = 0 := by
  obtain ⟨h1, h2, h3⟩ := hasB_ok h
  unfold gpE
  rw [decide_eq_true (show [s].length = [(ng, t)].length from rfl), ck_last ⟨by simp [h2], by simp [ht]⟩ h1]
  simp [h3]
theorem gpS_one {M O s t : ByteArray} {ng : Bool} (h : hasB M O s = true) (ht : ivB (ng, t) = true) : gpS M O [s] [(ng, t)] = enc (sb (nv M) (nv s) ng ^ nv t % nv M) := by
  rw [gpS, gpE_one h ht, mo_zero]
  simp [prs, pr]
end Go.Proofs.YtcjbbneiobnmkaaGreat
