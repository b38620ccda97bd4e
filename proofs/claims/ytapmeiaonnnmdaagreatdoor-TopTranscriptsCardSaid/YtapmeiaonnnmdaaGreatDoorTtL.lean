import Derived.Test.YtapmeiaonnnmdaaGreatDoorTtI
import Derived.Maps.RangeWalk
import Derived.Maps.OwnSet
import Derived.Maps.OwnOps
/- dominotop: smallInt, intKey, sameCounts; counts as maps. -/
namespace Go.Proofs.YtapmeiaonnnmdaaGreatDoor
open Go.RowKit Num Go.Maps
set_option maxRecDepth 20000
set_option linter.unusedVariables false
theorem smallInt_any (n : Int) (w : World) (hn : n.natAbs < 1000) :
    Calls Tryz.prog 6 #[.int .i64 n] w fun e w' => e = .returned (.agg #[.bool (zb n), .string (zs n)]) ∧ Below w.heap.size w w' := by
  have h1 : IntKind.i64.wrap (-n) = -n := by rw [IntKind.wrap_i64]; omega
  have h2 : IntKind.u64.wrap (max n (-n)) = (n.natAbs : Int) := by
    have : max n (-n) = (n.natAbs : Int) := by omega
    rw [this]; rw [IntKind.wrap_u64]; omega
  have HO := Lib.hid (fun w' => Of_any n.natAbs w' (by omega))
  have hI := RBox.new w
  have hb := (Below.refl _ w).alloc (Nat.le_refl _) (.cells #[.bool false, .string ⟨#[]⟩] 36)
  clear hn
  go_enter Tryz.func6, Tryz.ntmps6
  go_wp2_with fail
  refine (HO.out _).mono ?_; rintro e w1 ⟨rfl, b1⟩
  have hI1 := hI.below b1 hI.lt
  have hb1 := hb.trans (b1.mono hb.size)
  have c0 := hI1.c0
  have c1 := hI1.c1
  have f0 := hI1.f0
  have f1 := hI1.f1
  clear h1 h2 HO hI b1 hb
  go_wp2_with fail
  refine bodyPost_int rfl rfl (put2 hI1) rfl ⟨rfl, ?_⟩
  exact (hb1.setCell (p := ⟨w.heap.size, 0, none⟩) (Nat.le_refl _) _).setCell (p := ⟨w.heap.size, 1, none⟩) (Nat.le_refl _) _
/-- the text of an integer -/
def ikB (z : Int) : ByteArray := (if zb z = true then (⟨#[45]⟩ : ByteArray) else ⟨#[43]⟩) ++ zs z ++ ⟨#[47]⟩
theorem intKey_any (z : Int) (w : World) (hz : z.natAbs < 65536) :
    Calls Tryz.prog 12 #[.agg #[.bool (zb z), .string (zs z)]] w fun e w' => e = .returned (.string (ikB z)) ∧ Below w.heap.size w w' := by
  have hb := (Below.refl _ w).alloc (Nat.le_refl _) (.cells #[.bool (zb z), .string (zs z)] 36)
  have hI := IBL.new w (zb z) (zs z)
  have i0 := hI.c0
  have i1 := hI.c1
  have hs : (zs z).size ≤ 2 := by unfold zs; rw [size_enc]; exact (blen_le_iff _ 2).2 (by omega)
  unfold ikB
  cases hg : zb z
  all_goals
    rw [hg] at i0
    simp only [hg] at hb hI i1 ⊢
    generalize zs z = s at hb hI i0 i1 hs ⊢
    have z1 : (⟨#[45]⟩ : ByteArray).size = 1 := rfl
    have z2 : (⟨#[43]⟩ : ByteArray).size = 1 := rfl
    have z3 : (⟨#[47]⟩ : ByteArray).size = 1 := rfl
    have a1 := fun (w' : World) => run_string_add_sum (P := Tryz.prog) (w := w') ⟨#[45]⟩ s (by omega)
    have a2 := fun (w' : World) => run_string_add_sum (P := Tryz.prog) (w := w') ⟨#[43]⟩ s (by omega)
    have a3 := fun (w' : World) => run_string_add_sum (P := Tryz.prog) (w := w') (⟨#[45]⟩ ++ s) ⟨#[47]⟩ (by rw [ByteArray.size_append]; omega)
    have a4 := fun (w' : World) => run_string_add_sum (P := Tryz.prog) (w := w') (⟨#[43]⟩ ++ s) ⟨#[47]⟩ (by rw [ByteArray.size_append]; omega)
    clear z1 z2 z3
    go_enter Tryz.func12, Tryz.ntmps12
    go_wp2_with fail
    go_ret
    exact ⟨rfl, hb⟩
/-- maps from strings to numbers -/
theorem mlaw : Keyed Tryz.prog 9 := string_keyed Tryz.underlying9
theorem mzero (w : World) : (zeroValue 3).run Tryz.prog w = .ok (.int .i64 0) w := by kernel_rfl
abbrev MD := DataW Unit
/-- block b is a map that reads as D -/
def OM (w : World) (b n : Nat) (D : MD) : Prop := w.ownsMap Tryz.prog 9 (plainElem Tryz.prog 3) b n D
theorem OM.lt {w : World} {b n : Nat} {D : MD} (h : OM w b n D) : b < w.heap.size := World.ownsMap.lt h
theorem OM.below {w w' : World} {b n K : Nat} {D : MD} (h : OM w b n D) (hb : Below K w w') (hK : b < K) : OM w' b n D := by
  obtain ⟨es, clock, h1, h2⟩ := h
  exact ⟨es, clock, (hb.block b hK).trans h1, h2⟩
theorem OM.kept {w w' : World} {b n : Nat} {D : MD} {row : Option Nat} (h : OM w b n D) (hg : w.grownBy w' row) (hne : some b ≠ row) : OM w' b n D := World.ownsMap.kept h hg hne
theorem keyOf_string_inv {P : Program} {k : TypeId} (hk : P.underlying k = some .string) {key : Value} {kl : Lit} (h : keyOf P k key = some kl) : ∃ s, key = .string s ∧ kl = .string s.data.toList ∧ s.size ≤ maxLen := by
  cases key <;> simp [keyOf, hk, mapKey] at h
  exact ⟨_, rfl, h.2.symm, h.1⟩
theorem wpList_next_si {P : Program} (w : World) {ops : Array Oper} {rest : List Oper} {o : Oper} {a : Act} {Q : Exit → Act → World → Prop}
    (hg : o.guard = none) (it : Operand) (hop : o.op = Op.next it false) (k e : TypeId) (K : Keyed P k) (hk : P.underlying k = some .string) (he : P.underlying e = some (.int .i64))
    (b r n : Nat) (D : MD) (left : Lit → Bool) (cnt : Nat) (hit : a.eval it = .pointer (some ⟨r, 0, none⟩)) (h : w.ranges P k (plainElem P e) b r n D left cnt)
    (hDone : cnt = 0 → (∀ kl, left kl = false) → wpList P ops Q rest (a.put o.dst (.tuple #[.bool false])) w)
    (hMore : ∀ (s : ByteArray) (c : Int) (w' : World) (cnt' : Nat), s.size ≤ maxLen → (∀ zd, D.atKey (.string s.data.toList) zd = .lit (.int .i64 c)) → w'.ranges P k (plainElem P e) b r n D (fun z => left z && !z.sameKey (.string s.data.toList)) cnt' → cnt' < cnt →
      w.grownBy w' (some r) → w'.heap.size = w.heap.size → (Instr.entry (.pointer (some ⟨r, 0, none⟩))).run P w' = .ok (.tuple #[.string s, .int .i64 c]) w' → wpList P ops Q rest (a.put o.dst (.tuple #[.bool true, .string s, .int .i64 c])) w') :
    wpList P ops Q (o :: rest) a w :=
  wpList_next_ranges w hg it hop k K (plainElem P e) Value.string (Value.int .i64) (fun key kl hkey => by obtain ⟨x, rfl, _⟩ := keyOf_string_inv hk hkey; exact ⟨x, rfl⟩) (fun v y hv => by obtain ⟨c, rfl, _⟩ := plainElem_int_inv he hv; exact ⟨c, rfl⟩)
    b r n D left cnt hit h hDone (fun x c kl y w' cnt' hkey hlk hv hat hrg hlt hgr hsz hen => by
      obtain ⟨x', ex, rfl, hwx⟩ := keyOf_string_inv hk hkey
      cases ex
      obtain ⟨c', ec, rfl, hwc⟩ := plainElem_int_inv he hv
      cases ec
      exact hMore x c w' cnt' hwx hat hrg hlt hgr hsz hen)
/-- the count at a key, and one more -/
def ctOf (D : MD) (kl : Lit) : Int := match D.atKey kl (.lit (.int .i64 0)) with | .lit (.int _ c) => c | _ => 0
def bump (D : MD) (kl : Lit) : MD := D.put kl (.lit (.int .i64 (IntKind.i64.wrap (ctOf D kl + 1))))
def mapOf (L : List Lit) : MD := L.foldl bump (.map [])
theorem mapOf_snoc (L : List Lit) (k : Lit) : mapOf (L ++ [k]) = bump (mapOf L) k := by unfold mapOf; rw [List.foldl_append]; rfl
theorem ctOf_eq {D : MD} {kl : Lit} {c : Int} (h : D.atKey kl (.lit (.int .i64 0)) = .lit (.int .i64 c)) : ctOf D kl = c := by unfold ctOf; rw [h]
set_option maxHeartbeats 2000000 in
theorem sameCounts_any (b1 b2 n1 n2 : Nat) (D : MD) (w : World) (h1 : OM w b1 n1 D) (h2 : OM w b2 n2 D) :
    Calls Tryz.prog 8 #[.map (some b1), .map (some b2)] w fun e w' => e = .returned (.bool true) ∧ Below w.heap.size w w' := by
  have hl1 := h1.lt
  have hl2 := h2.lt
  go_enter Tryz.func8, Tryz.ntmps8
  go_wp2_with (first
    | (at_len; refine wpList_len_own _ rfl _ 50 rfl 9 3 Tryz.underlying50 _ b1 n1 D rfl h1 ?_)
    | (at_len; refine wpList_len_own _ rfl _ 50 rfl 9 3 Tryz.underlying50 _ b2 n2 D rfl h2 ?_)
    | (at_range; refine wpList_range_own _ rfl _ 50 rfl 9 3 mlaw Tryz.underlying50 _ b1 n1 D rfl h1 ?_; intro w0 hrg0 hg0 hs0)
    | go_in)
  go_frame
  have h2' : OM w0 b2 n2 D := h2.kept hg0 (by simp)
  have hb0 : Below w.heap.size w w0 := (Below.refl _ _).grown hg0 (Nat.le_refl _) (fun j hj => by cases hj)
  clear h1 h2 hg0
  go_loopw [5] (fun _ wr => ∃ (left : Lit → Bool) (cnt : Nat), wr.ranges Tryz.prog 9 (plainElem Tryz.prog 3) b1 w.heap.size n1 D left cnt ∧ OM wr b2 n2 D ∧ Below w.heap.size w wr) (fun _ wr => wr.rangeLeft b1 w.heap.size)
  case atStart => exact ⟨_, _, hrg0, h2', hb0⟩
  case round =>
    clear hrg0 h2' hb0
    obtain ⟨left, cnt, hrg, h2, hb⟩ := hrel
    go_wp2_with (first
      | (at_next; refine wpList_next_si _ rfl _ rfl 9 3 mlaw Tryz.underlying9 Tryz.underlying3 b1 w.heap.size n1 _ _ _ rfl hrg ?_ ?_)
      | go_in)
    · intro hc0 hl0
      go_wp2_with fail
      go_ret
      exact ⟨rfl, hb⟩
    · intro s c w1 cnt1 hws hat hrg1 hlt hg1 hs1 hen
      have h2' : OM w1 b2 n2 D := h2.kept hg1 (fun e => by have := Option.some.inj e; omega)
      have hb1 : Below w.heap.size w w1 := hb.grown hg1 hb.size (fun j hj => by cases hj; exact Nat.le_refl _)
      have hm := hrg1.left_eq
      have hm0 := hrg.left_eq
      clear h2 hb hrg
      go_wp2_with (first
        | (at_lookup; refine wpList_lookup_own_int _ rfl _ _ 50 rfl 9 3 .i64 mlaw Tryz.underlying50 Tryz.underlying3 (mzero _) b2 n2 D rfl h2' _ _ rfl (WideMaps.keyOf_string_mk Tryz.underlying9 hws) ?_; intro c2 hat2 hwc; rw [hat] at hat2; cases hat2)
        | go_in)
      exact ⟨⟨_, cnt1, hrg1, h2', hb1⟩, by rw [hm, hm0]; exact hlt⟩
end Go.Proofs.YtapmeiaonnnmdaaGreatDoor

/- dominotop.transcriptsOf. -/
namespace Go.Proofs.YtapmeiaonnnmdaaGreatDoor
open Go.RowKit Num Go.Maps
set_option maxRecDepth 20000
set_option linter.unusedVariables false
/-- the key of response number j -/
def klB (t : Nat) (u : Int) (j : Nat) : ByteArray := enc (pw ((j : Int) - ((t : Int) - 1) - u)) ++ ⟨#[47]⟩ ++ ikB ((j : Int) - ((t : Int) - 1))
def klF (t : Nat) (u : Int) (j : Nat) : Lit := .string (klB t u j).data.toList
def LK (t : Nat) (u : Int) (n : Nat) : List Lit := (List.range n).map (klF t u)
theorem LK_succ (t : Nat) (u : Int) (n : Nat) : LK t u (n + 1) = LK t u n ++ [klF t u n] := by unfold LK; rw [List.range_succ, List.map_append]; rfl
theorem LK_same {t : Nat} {u u' : Int} (h : u % 15 = u' % 15) (n : Nat) : LK t u n = LK t u' n := by
  unfold LK
  refine List.map_congr_left fun j _ => ?_
  unfold klF klB
  rw [pw_same (a := (j : Int) - ((t : Int) - 1) - u) (b := (j : Int) - ((t : Int) - 1) - u') (by omega)]
theorem enc_small {n : Nat} (h : n < 65536) : (enc n).size ≤ 2 := by rw [size_enc]; exact (blen_le_iff _ 2).2 (by omega)
theorem ik_size {z : Int} (h : z.natAbs < 65536) : (ikB z).size ≤ 4 := by
  have hs : (zs z).size ≤ 2 := enc_small h
  unfold ikB
  rw [ByteArray.size_append, ByteArray.size_append]
  split
  · show 1 + (zs z).size + 1 ≤ 4; omega
  · show 1 + (zs z).size + 1 ≤ 4; omega
theorem wrap_wfI (n : Int) : (Lit.int .i64 (IntKind.i64.wrap n)).wf = true := by
  rw [IntKind.wrap_i64]
  simp only [Lit.wf, IntKind.min, IntKind.max, IntKind.signed, IntKind.bits, Bool.and_eq_true, decide_eq_true_eq, if_true]
  omega
theorem OM.cell_ne {w : World} {b n p o : Nat} {D : MD} {v : Value} (h : OM w b n D) (hc : w.cell? ⟨p, o, none⟩ = some v) : p ≠ b := fun e => by
  subst e
  obtain ⟨es, clock, h1, _⟩ := h
  simp [World.cell?, h1] at hc
theorem OM.cell_keep {w w' : World} {b n p o : Nat} {D : MD} {v : Value} (h : OM w b n D) (hg : w.grownBy w' (some b)) (hc : w.cell? ⟨p, o, none⟩ = some v) : w'.cell? ⟨p, o, none⟩ = some v :=
  (cell_same (hg.block p (World.block_lt_of_cell? w _ hc) (fun e => h.cell_ne hc (Option.some.inj e))) o).trans hc
section
variable {P : Program} {o : Oper} {a : Act} {K : Act → World → Prop} {Q : Exit → Act → World → Prop}
theorem wp_lookup_int (w : World) (m x : Operand) (t : TypeId) (hop : o.op = Op.lookup t m x false) (k e : TypeId) (KY : Keyed P k) (ht : P.underlying t = some (.map k e)) (he : P.underlying e = some (.int .i64)) (hz : (zeroValue e).run P w = .ok (.int .i64 0) w) (b n : Nat) (D : MD)
    (hm : a.eval m = .map (some b)) (hown : w.ownsMap P k (plainElem P e) b n D) (key : Value) (kl : Lit) (hx : a.eval x = key) (hkey : keyOf P k key = some kl)
    (hK : ∀ c : Int, D.atKey kl (.lit (.int .i64 0)) = .lit (.int .i64 c) → K (a.put o.dst (.int .i64 c)) w) : o.wp P a w K Q := by
  obtain ⟨c, hrun, hat, hwc⟩ := hown.lookup_int KY ht he hz hkey
  unfold Oper.wp
  simp [execOp, hop, hm, hx, hrun, Result.andThen]
  exact hK c hat
theorem wp_mapUpdate_int (w : World) (m x v : Operand) (t : TypeId) (hop : o.op = Op.mapUpdate t m x v) (k e : TypeId) (KY : Keyed P k) (ht : P.underlying t = some (.map k e)) (R : Value → Option (MD × List MemPlace)) (b n : Nat) (D : MD)
    (hm : a.eval m = .map (some b)) (hown : w.ownsMap P k R b n D) (hn : n < maxLen) (key val : Value) (kl : Lit) (hx : a.eval x = key) (hv : a.eval v = val) (hkey : keyOf P k key = some kl)
    (d : MD) (ps : List MemPlace) (hval : R val = some (d, ps))
    (hK : ∀ w', w'.ownsMap P k R b (n + 1) (D.put kl d) → w.grownBy w' (some b) → K (a.put o.dst undef) w') : o.wp P a w K Q := by
  obtain ⟨w', hrun, r1, r2⟩ := hown.update KY ht hn hkey hval
  unfold Oper.wp
  simp [execOp, hop, hm, hx, hv, hrun, Result.andThen]
  exact hK w' r1 r2
end
theorem IBL.is {w : World} {b : Nat} {g : Bool} {s : ByteArray} (h : IBL w b g s) : IS w (some ⟨b, 0, none⟩) [(g, s)] := fun k hk => by
  obtain rfl : k = 0 := by simp at hk; omega
  exact ⟨b, 0, rfl, h.c0, h.c1⟩
theorem SB.ns {w : World} {b : Nat} {s : ByteArray} (h : SB w b s) : NS w (some ⟨b, 0, none⟩) [s] := fun k hk => by
  obtain rfl : k = 0 := by simp at hk; omega
  exact ⟨b, 0, rfl, h.c⟩
/-- the world behind a boxed rule, statement and integer -/
theorem box_rsi (w : World) (C L : ByteArray) (a : StA) (S : StM) (g : Bool) (s : ByteArray) : ∃ W, ((w.alloc (.cells #[.string C, .string L] 31)).alloc (.cells #[.slice a.ga S.G.length a.gc, .slice a.va S.V.length a.vc, .slice a.qa S.Q.length a.qc] 49)).alloc (.cells #[.bool g, .string s] 36) = W ∧
    RUB W w.heap.size C L ∧ SXB W (w.heap.size + 1) a S ∧ IBL W (w.heap.size + 1 + 1) g s ∧ Below w.heap.size w W := by
  obtain ⟨w2, hw2, h0, h1, b2⟩ := box_rs w C L a S
  have hs2 : w2.heap.size = w.heap.size + 1 + 1 := by rw [← hw2]; simp
  have b3 := (Below.refl _ w2).alloc (Nat.le_refl _) (.cells #[.bool g, .string s] 36)
  have g3 := IBL.new w2 g s
  rw [hs2] at g3
  rw [hw2]
  exact ⟨_, rfl, h0.below b3 h0.lt, h1.below b3 h1.lt, g3, b2.trans (b3.mono b2.size)⟩
/-- what transcriptsOf answers -/
def TRP (w : World) (D : MD) : Ending → World → Prop := fun e w' => ∃ b n, e = .returned (.tuple #[.map (some b), .bool true]) ∧ w.heap.size ≤ b ∧ OM w' b n D ∧ Below w.heap.size w w'
theorem TRP.mk {w w' : World} {D : MD} {e : Ending} {b n : Nat} (he : e = .returned (.tuple #[.map (some b), .bool true])) (h1 : w.heap.size ≤ b) (h2 : OM w' b n D) (h3 : Below w.heap.size w w') : TRP w D e w' := ⟨b, n, he, h1, h2, h3⟩
set_option maxHeartbeats 16000000 in
theorem transcripts_tt (K L c : Nat) (h1 : 2 ≤ K) (h2 : K < 4) (h3 : 2 ≤ L) (h4 : L < 4) (hcK : c < K) (g v : Int) (hv : v.natAbs < 20) (a : StA) (ta : Option Addr) (tc : Nat) (S : StM) (hSe : ttS (enc (pw g)) ta tc = S) (w : World) (hS : SS w a S) :
    Calls Tryz.prog 7 #[.agg #[.string (enc K), .string (enc L)], .agg #[.slice a.ga S.G.length a.gc, .slice a.va S.V.length a.vc, .slice a.qa S.Q.length a.qc], .agg #[.bool (zb v), .string (zs v)], .string (enc c)] w (TRP w (mapOf (LK (L * K * 20 - (K - 1) * 19) (c * v) (2 * (L * K * 20 - (K - 1) * 19) - 1)))) := by
  obtain ⟨W, hW, hU, hX, hI, hb⟩ := box_rsi w (enc K) (enc L) a S (zb v) (zs v)
  have hS0 := hS.below hb (Nat.le_refl _)
  have hok : S.ok := by rw [← hSe]; exact tt_ok g ta tc
  have hV : S.V = [⟨#[20]⟩] := by rw [← hSe]; rfl
  have hn : S.V.length = 1 := by rw [hV]; rfl
  have hbd : bdE (enc K) (enc L) S.pl = 0 := by rw [← hSe]; exact tt_bd g K L h1 h2 h3 h4 ta tc
  have hKL : L * K * 20 ≤ 180 := by
    have : L * K ≤ 3 * 3 := Nat.mul_le_mul (by omega) (by omega)
    omega
  have hKL0 : 40 * K ≤ L * K * 20 := by
    have h0 : 2 * K ≤ L * K := Nat.mul_le_mul_right K h3
    omega
  have hcv : ((c : Int) * v).natAbs ≤ (K - 1) * 19 := by rw [Int.natAbs_mul]; exact Nat.mul_le_mul (by simp; omega) (by omega)
  have sz : ∀ k, k < 4 → (enc k).size ≤ 8 := fun k hk => by rw [size_enc]; exact Nat.le_trans ((blen_le_iff k 1).2 (by omega)) (by omega)
  have HB := Lib.hid (sBounds_one (enc K) (enc L) a S ⟨#[20]⟩ _ _ W hS0 hok (sz K h2) (sz L h4) hV (by decide) hbd (tt_lim K L _))
  have HCM := Lib.hid (fun (x : Nat) vo vc w' (hb' : Below w.heap.size w w') (hN : NS w' vo [enc x]) (hlt : x < 2 * (L * K * 20) - 1) => sCommit_tt K L h1 h2 h3 h4 g a ta tc S hSe vo vc x w' (hS.below hb' (Nat.le_refl _)) hN hlt)
  have HRS := Lib.hid (fun (z : Int) (hz : z.natAbs < L * K * 20) wo mo wc0 mc w' (hb' : Below w.heap.size w w') (hwi : IS w' wo [(zb v, zs v)]) (hmi : IS w' mo [(zb z, zs z)]) => sRespond_tt K L c h1 h2 h3 h4 hcK g v z a ta tc S hSe wo mo wc0 mc w' (hS.below hb' (Nat.le_refl _)) hwi hmi hv hz)
  generalize hm : L * K * 20 = m at HB HCM HRS hKL hKL0 ⊢
  obtain ⟨t, ht⟩ : ∃ t, m - (K - 1) * 19 = t := ⟨_, rfl⟩
  have htm : t ≤ m := by omega
  have ht1 : 1 ≤ t := by omega
  rw [ht] at HB HRS ⊢
  obtain ⟨u, hu⟩ : ∃ u : Int, (c : Int) * v = u := ⟨_, rfl⟩
  rw [hu] at HRS hcv ⊢
  obtain ⟨A0, hA0⟩ : ∃ A0 : Nat, (A0 : Int) = ((m : Int) - 1) - u - ((t : Int) - 1) := ⟨(((m : Int) - 1) - u - ((t : Int) - 1)).toNat, by omega⟩
  have hA1 : A0 + (2 * t - 1) ≤ 2 * m - 1 := by omega
  have HSM := Lib.hid (fun w' => Small_ok (enc m) m w' (sN (by omega)) (by rw [size_enc]; exact Nat.le_trans ((blen_le_iff m 2).2 (by omega)) (by omega)))
  have w1 : IntKind.u64.wrap (2 * (m : Int)) = 2 * (m : Int) := by rw [IntKind.wrap_u64]; omega
  have w2 : IntKind.u64.wrap (2 * (m : Int) - 1) = ((2 * m - 1 : Nat) : Int) := by rw [IntKind.wrap_u64]; omega
  have x0 := hX.c0
  have x1 := hX.c1
  have x2 := hX.c2
  have u0 := hU.c0
  have u1 := hU.c1
  have i0 := hI.c0
  have i1 := hI.c1
  simp only [hn] at hW HB HCM HRS x1 ⊢
  have hmm := @run_makeMap Tryz.prog
  clear hS hS0 hok hV hbd hcv sz hX hU hI hn hm
  go_enter Tryz.func7, Tryz.ntmps7
  go_wp2_with fail
  clear hW
  refine HB.out.mono ?_; rintro e w1' ⟨mo, mc, bo, bc, rfl, hMN, _, b1⟩
  replace x0 := cells_keepL b1 (Nat.le_refl _) _ _ x0
  replace x1 := cells_keepL b1 (Nat.le_refl _) _ _ x1
  replace x2 := cells_keepL b1 (Nat.le_refl _) _ _ x2
  replace u0 := cells_keepL b1 (Nat.le_refl _) _ _ u0
  replace u1 := cells_keepL b1 (Nat.le_refl _) _ _ u1
  replace i0 := cells_keepL b1 (Nat.le_refl _) _ _ i0
  replace i1 := cells_keepL b1 (Nat.le_refl _) _ _ i1
  replace hb := hb.trans (b1.mono hb.size)
  obtain ⟨mb, mof, rfl, m0⟩ := hMN 0 (by simp)
  simp only [Nat.add_zero, List.getElem_cons_zero] at m0
  clear hMN b1 HB
  go_wp2_with fail
  refine (HSM.out _).mono ?_; rintro e w2' ⟨rfl, rfl⟩
  go_wp2_with fail
  clear m0 hmm HSM w1 w2
  have hOM : OM (w1'.alloc (.map #[] 0)) w1'.heap.size 0 (mapOf (LK t u 0)) := World.ownsMap_made _ _ _ _
  have bM := (Below.refl _ w1').alloc (Nat.le_refl _) (.map #[] 0)
  have hsz0 := hb.size
  go_loopw [48] (fun v48 wr => ∃ k : Nat, k ≤ 2 * m - 1 ∧ v48 = .int .u64 (k : Int) ∧ OM wr w1'.heap.size k (mapOf (LK t u (min (k - A0) (2 * t - 1)))) ∧ Below w1'.heap.size w1' wr) (fun v48 _ => 2 * m - 1 - (intOf v48).toNat)
  case atStart => exact ⟨0, by omega, rfl, by rw [Nat.zero_sub, Nat.zero_min]; exact hOM, bM⟩
  case round =>
    clear hOM bM
    obtain ⟨k, hk, rfl, hOM, hB⟩ := hrel
    replace x0 := cells_keepL hB (Nat.le_refl _) _ _ x0
    replace x1 := cells_keepL hB (Nat.le_refl _) _ _ x1
    replace x2 := cells_keepL hB (Nat.le_refl _) _ _ x2
    replace u0 := cells_keepL hB (Nat.le_refl _) _ _ u0
    replace u1 := cells_keepL hB (Nat.le_refl _) _ _ u1
    replace i0 := cells_keepL hB (Nat.le_refl _) _ _ i0
    replace i1 := cells_keepL hB (Nat.le_refl _) _ _ i1
    have hbw := hb.trans (hB.mono hb.size)
    by_cases hlt : k < 2 * m - 1
    · have hlI : ((k : Int) < ((2 * m - 1 : Nat) : Int)) := by omega
      go_wp2_with fail
      clear hlI
      obtain ⟨z, hz⟩ : ∃ z : Int, (k : Int) - ((m : Int) - 1) = z := ⟨_, rfl⟩
      have hzm : z.natAbs < m := by omega
      have HC := Lib.hid (fun vo vc w' (hb' : Below wr.heap.size wr w') (hN : NS w' vo [enc k]) => HCM.out k vo vc w' (hbw.trans (hb'.mono hbw.size)) hN hlt)
      rw [hz] at HC
      have HO := Lib.hid (fun w' => Of_any k w' (by omega))
      have HEN := Lib.hid (enc_neE (pw_pos z))
      go_cut [17, 18, 19, 20] from 51 to 62 (fun v17 v18 v19 v20 wc => ∃ ao ac fo fc, v17 = .slice ao 1 ac ∧ v18 = .slice fo 1 fc ∧ v20 = .int .i64 0 ∧ IS wc ao [(zb z, zs z)] ∧ NS wc fo [enc (pw z)] ∧ Below wr.heap.size wr wc)
      case first =>
        have HMK := Lib.hid (fun w' (hw : Below wr.heap.size wr w') => (⟨cells_keepL hw (Nat.le_refl _) _ _ u0, cells_keepL hw (Nat.le_refl _) _ _ u1, cells_keepL hw (Nat.le_refl _) _ _ x0, cells_keepL hw (Nat.le_refl _) _ _ x1, cells_keepL hw (Nat.le_refl _) _ _ x2, hw⟩ : w'.cell? ⟨w.heap.size, 0, none⟩ = some (.string (enc K)) ∧ w'.cell? ⟨w.heap.size, 1, none⟩ = some (.string (enc L)) ∧ w'.cell? ⟨w.heap.size + 1, 0, none⟩ = some (.slice a.ga S.G.length a.gc) ∧ w'.cell? ⟨w.heap.size + 1, 1, none⟩ = some (.slice a.va 1 a.vc) ∧ w'.cell? ⟨w.heap.size + 1, 2, none⟩ = some (.slice a.qa S.Q.length a.qc) ∧ Below wr.heap.size wr w'))
        clear HRS HCM hOM hB hb i0 i1
        go_region_held3 (fun w' => w'.cell? ⟨w.heap.size, 0, none⟩ = some (.string (enc K)) ∧ w'.cell? ⟨w.heap.size, 1, none⟩ = some (.string (enc L)) ∧ w'.cell? ⟨w.heap.size + 1, 0, none⟩ = some (.slice a.ga S.G.length a.gc) ∧ w'.cell? ⟨w.heap.size + 1, 1, none⟩ = some (.slice a.va 1 a.vc) ∧ w'.cell? ⟨w.heap.size + 1, 2, none⟩ = some (.slice a.qa S.Q.length a.qc) ∧ Below wr.heap.size wr w')
          (first | assumption | (refine HMK.out _ ?_; repeat' (first | assumption | with_reducible exact Below.refl _ _ | with_reducible refine Below.drew ?_ | with_reducible refine Below.alloc ?_ (by first | with_reducible exact hbm.size | with_reducible exact hbn.size | (simp; done) | (simp; have := hbn.size; omega)) _ | with_reducible refine Below.setCell ?_ (by first | (simp; done) | exact hbn.size | (simp; have := hbn.size; omega)) _)))
          (first
            | (go_at_call 4; (with_reducible refine (HO.out _).mono ?_); rintro e wn ⟨rfl, bn⟩; (first | (have hbn : Below wr.heap.size wr wn := (Below.refl _ wr).drew.trans (bn.mono (Nat.le_refl _))) | (have hbn : Below wr.heap.size wr wn := ((Below.refl _ wr).alloc (Nat.le_refl _) (.cells #[.slice none 0 0, .string ⟨#[]⟩, .int .i64 0] 63)).drew.trans (bn.mono (by simp)); have hrn := TPB.below (w := (wr.alloc (.cells #[.slice none 0 0, .string ⟨#[]⟩, .int .i64 0] 63)).drew) (TPB.new wr (.slice none 0 0) (.string ⟨#[]⟩) (.int .i64 0)) bn (TPB.new wr (.slice none 0 0) (.string ⟨#[]⟩) (.int .i64 0)).lt)); have hB1 := hbn.alloc hbn.size (.cells #[.string (enc k)] 25); have hN1 := (SB.new wn (enc k)).ns; have kT := (Below.refl _ (wn.alloc (.cells #[.string (enc k)] 25))).alloc (Nat.le_refl _) (.cells #[.slice none 0 0, .string ⟨#[]⟩, .int .i64 0] 63); have hB2 := hB1.alloc hB1.size (.cells #[.slice none 0 0, .string ⟨#[]⟩, .int .i64 0] 63); have hN2 := hN1.keepL (cells_keepL kT (Nat.le_refl _)); have hBt := hbn.alloc hbn.size (.cells #[.slice none 0 0, .string ⟨#[]⟩, .int .i64 0] 63); have hB3 := hBt.alloc hBt.size (.cells #[.string (enc k)] 25); have hN3 := (SB.new (wn.alloc (.cells #[.slice none 0 0, .string ⟨#[]⟩, .int .i64 0] 63)) (enc k)).ns; rw [World.size_alloc] at hN3; have kN := (Below.refl _ wn).alloc (Nat.le_refl _) (.cells #[.string (enc k)] 25); have hT2 := TPB.new (wn.alloc (.cells #[.string (enc k)] 25)) (.slice none 0 0) (.string ⟨#[]⟩) (.int .i64 0); rw [World.size_alloc] at hT2; have hT3 := (TPB.new wn (.slice none 0 0) (.string ⟨#[]⟩) (.int .i64 0)).below ((Below.refl _ (wn.alloc (.cells #[.slice none 0 0, .string ⟨#[]⟩, .int .i64 0] 63))).alloc (Nat.le_refl _) (.cells #[.string (enc k)] 25)) (TPB.new wn (.slice none 0 0) (.string ⟨#[]⟩) (.int .i64 0)).lt)
            | (go_at_call 15; (first
              | ((with_reducible refine (HC.out _ _ _ hB1 hN1).mono ?_); rintro e wm ⟨ao, ac, fo, fc, no, nc, rfl, hIm, hNm, bm⟩; have hbm : Below wr.heap.size wr wm := hB1.trans (bm.mono hB1.size); (first | (have hrm := (hrn.below kN hrn.lt).below bm (hrn.below kN hrn.lt).lt; have hpp : wr.heap.size ≤ wr.heap.size := Nat.le_refl _; have z0 := hrm.c0; have z1 := hrm.c1; have z2 := hrm.c2; have z3 := hrm.f 0; have z4 := hrm.f 1; have z5 := hrm.f 2) | skip))
              | ((with_reducible refine (HC.out _ _ _ hB2 hN2).mono ?_); rintro e wm ⟨ao, ac, fo, fc, no, nc, rfl, hIm, hNm, bm⟩; have hbm : Below wr.heap.size wr wm := hB2.trans (bm.mono hB2.size); have hrm := hT2.below bm hT2.lt; have hpp : wr.heap.size ≤ wn.heap.size + 1 := Nat.le_succ_of_le hbn.size; have z0 := hrm.c0; have z1 := hrm.c1; have z2 := hrm.c2; have z3 := hrm.f 0; have z4 := hrm.f 1; have z5 := hrm.f 2)
              | ((with_reducible refine (HC.out _ _ _ hB3 hN3).mono ?_); rintro e wm ⟨ao, ac, fo, fc, no, nc, rfl, hIm, hNm, bm⟩; have hbm : Below wr.heap.size wr wm := hB3.trans (bm.mono hB3.size); have hrm := hT3.below bm hT3.lt; have hpp := hbn.size; have z0 := hrm.c0; have z1 := hrm.c1; have z2 := hrm.c2; have z3 := hrm.f 0; have z4 := hrm.f 1; have z5 := hrm.f 2))))
        all_goals
          go_wp2_with fail
          go_meet
          first
            | exact ⟨ao, ac, fo, fc, rfl, rfl, rfl, hIm.keepL (cells_keepL ((Below.refl _ wm).alloc (Nat.le_refl _) _) (Nat.le_refl _)), hNm.keepL (cells_keepL ((Below.refl _ wm).alloc (Nat.le_refl _) _) (Nat.le_refl _)), hbm.alloc hbm.size _⟩
            | exact ⟨ao, ac, fo, fc, rfl, rfl, rfl, hIm.heap (fun b off e => put3_other wm _ _ _ _ b (hIm.noTPB (by simp) hrm b off e)), hNm.heap (fun b off e => put3_other wm _ _ _ _ b (hNm.noTPB HEN.out hrm b off e)), ((hbm.setCell (p := ⟨_, 0, none⟩) hpp _).setCell (p := ⟨_, 1, none⟩) hpp _).setCell (p := ⟨_, 2, none⟩) hpp _⟩
      case rest =>
        obtain ⟨ao, ac, fo, fc, rfl, rfl, rfl, hIS, hNS, hBc⟩ := hcut
        rename World => wc
        have bI := (Below.refl _ wc).alloc (Nat.le_refl _) (.cells #[.bool (zb v), .string (zs v)] 36)
        have hBI := hBc.trans (bI.mono hBc.size)
        replace x0 := cells_keepL hBc (Nat.le_refl _) _ _ x0
        replace x1 := cells_keepL hBc (Nat.le_refl _) _ _ x1
        replace x2 := cells_keepL hBc (Nat.le_refl _) _ _ x2
        replace u0 := cells_keepL hBc (Nat.le_refl _) _ _ u0
        replace u1 := cells_keepL hBc (Nat.le_refl _) _ _ u1
        replace i0 := cells_keepL hBc (Nat.le_refl _) _ _ i0
        replace i1 := cells_keepL hBc (Nat.le_refl _) _ _ i1
        replace hOM := hOM.below hBI hOM.lt
        replace hB := hB.trans (hBI.mono hB.size)
        have HR := Lib.hid (HRS.out z hzm (some ⟨wc.heap.size, 0, none⟩) ao 1 ac _ (hbw.trans (hBI.mono hbw.size)) (IBL.new wc (zb v) (zs v)).is (hIS.keepL (cells_keepL bI (Nat.le_refl _))))
        replace hNS := hNS.keepL (cells_keepL bI (Nat.le_refl _))
        clear HC HO HCM HRS hIS hBc hBI bI hbw hb
        go_wp2_with fail
        clear x0 x1 x2 u0 u1 i0 i1
        generalize World.alloc wc _ = wI at hOM hB HR hNS ⊢
        obtain ⟨y, hy⟩ : ∃ y : Int, z + u = y := ⟨_, rfl⟩
        rw [hy] at HR
        have hys : y.natAbs < 65536 := by omega
        refine HR.out.mono ?_; rintro e wd (⟨hlt2, yo, yc, rfl, hIY, bd⟩ | ⟨hnl, rfl, bd⟩)
        · replace hOM := hOM.below bd hOM.lt
          replace hB := hB.trans (bd.mono hB.size)
          replace hNS := hNS.keepL (cells_keepL bd (Nat.le_refl _))
          have hkA : A0 ≤ k ∧ k - A0 < 2 * t - 1 := by omega
          have hmin : min (k - A0) (2 * t - 1) = k - A0 := by omega
          have hmin2 : min (k + 1 - A0) (2 * t - 1) = k - A0 + 1 := by omega
          rw [hmin] at hOM
          have hjy : ((k - A0 : Nat) : Int) - ((t : Int) - 1) = y := by omega
          have hzy : z = y - u := by omega
          have hKB : enc (pw z) ++ ⟨#[47]⟩ ++ ikB y = klB t u (k - A0) := by unfold klB; rw [hjy, ← hzy]
          have hsF : (enc (pw z)).size ≤ 2 := enc_small (Nat.lt_trans (pw_lt z) (by omega))
          have hsI := ik_size hys
          generalize enc (pw z) = F at hNS HEN hKB hsF
          have z3 : (⟨#[47]⟩ : ByteArray).size = 1 := rfl
          have a1 := fun (w' : World) => run_string_add_sum (P := Tryz.prog) (w := w') F ⟨#[47]⟩ (by omega)
          have hs2 : (F ++ ⟨#[47]⟩).size = F.size + 1 := by rw [ByteArray.size_append]; omega
          have a2 := fun (w' : World) => run_string_add_sum (P := Tryz.prog) (w := w') (F ++ ⟨#[47]⟩) (ikB y) (by omega)
          have hkey : keyOf Tryz.prog 9 (.string (F ++ ⟨#[47]⟩ ++ ikB y)) = some (klF t u (k - A0)) := by
            have := WideMaps.keyOf_string_mk (P := Tryz.prog) Tryz.underlying9 (s := F ++ ⟨#[47]⟩ ++ ikB y) (by rw [ByteArray.size_append]; unfold maxLen; omega)
            rw [this, hKB]; rfl
          obtain ⟨fb, fof, rfl, f0⟩ := hNS 0 (by simp)
          obtain ⟨yb, yof, rfl, y0, y1⟩ := hIY 0 (by simp)
          simp only [Nat.zero_mul, Nat.add_zero, List.getElem_cons_zero] at f0 y0 y1
          clear HR hNS hIY bd hKB hsF hsI z3 hs2 HEN hjy hmin hzm
          go_wp2_with fail
          refine wp_region_held_drew (S := fun w' => w'.cell? ⟨fb, fof, none⟩ = some (.string F) ∧ w'.cell? ⟨yb, yof, none⟩ = some (.bool (zb y)) ∧ w'.cell? ⟨yb, yof + 1, none⟩ = some (.string (zs y))) (by kernel_rfl) ⟨f0, y0, y1⟩ (fun hS0 => ?_)
          refine tkT 0 89 (.map (some w1'.heap.size)) rfl rfl (by kernel_rfl) (fun _ _ _ _ _ h => h) (.inl ⟨by rfl, fun w' hSw => (by go_simp)⟩) (by assumption) ?_
          try simp only [put9T, List.set]
          refine tkT 1 90 (.slice (some ⟨fb, fof, none⟩) 1 fc) rfl rfl (by kernel_rfl) (fun _ _ _ _ _ h => h) (.inl ⟨by rfl, fun w' hSw => (by go_simp)⟩) (by assumption) ?_
          try simp only [put9T, List.set]
          refine tkT 2 91 (.pointer (some ⟨fb, fof, none⟩)) rfl rfl (by kernel_rfl) (fun _ _ _ _ _ h => h) (.inl ⟨by rfl, fun w' hSw => (by go_simp)⟩) (by assumption) ?_
          try simp only [put9T, List.set]
          refine tkT 3 92 (.string F) rfl rfl (by kernel_rfl) (fun _ _ _ _ _ h => h) (.inl ⟨by rfl, fun w' hSw => (by obtain ⟨g0, g1, g2⟩ := hSw; go_simp)⟩) (by assumption) ?_
          try simp only [put9T, List.set]
          refine tkT 4 93 (.string (F ++ ⟨#[47]⟩)) rfl rfl (by kernel_rfl) (fun _ _ _ _ _ h => h) (.inl ⟨by rfl, fun w' hSw => (by go_simp)⟩) (by assumption) ?_
          try simp only [put9T, List.set]
          refine tkT 5 94 (.slice (some ⟨yb, yof, none⟩) 1 yc) rfl rfl (by kernel_rfl) (fun _ _ _ _ _ h => h) (.inl ⟨by rfl, fun w' hSw => (by go_simp)⟩) (by assumption) ?_
          try simp only [put9T, List.set]
          refine tkT 6 95 (.pointer (some ⟨yb, yof, none⟩)) rfl rfl (by kernel_rfl) (fun _ _ _ _ _ h => h) (.inl ⟨by rfl, fun w' hSw => (by go_simp)⟩) (by assumption) ?_
          try simp only [put9T, List.set]
          refine tkT 7 96 (.agg #[.bool (zb y), .string (zs y)]) rfl rfl (by kernel_rfl) (fun _ _ _ _ _ h => h) (.inl ⟨by rfl, fun w' hSw => (by obtain ⟨g0, g1, g2⟩ := hSw; go_simp)⟩) (by assumption) ?_
          try simp only [put9T, List.set]
          replace hOM : OM wd.drew w1'.heap.size k (mapOf (LK t u (k - A0))) := hOM
          replace hB : Below w1'.heap.size w1' wd.drew := hB.drew
          clear f0 y0 y1
          generalize wd.drew = we at hS0 hOM hB ⊢
          refine wpAnyH_ready (rs := [8]) (by kernel_rfl) (by simp) ?_
          refine AllReadyH.cons rfl (fun K hK => ?_) AllReadyH.nil
          rw [if_pos (by rfl)]
          go_simp
          go_at_call 12
          refine (intKey_any y we hys).mono ?_; rintro e wf ⟨rfl, bf⟩
          have hS1 : wf.cell? ⟨fb, fof, none⟩ = some (.string F) ∧ wf.cell? ⟨yb, yof, none⟩ = some (.bool (zb y)) ∧ wf.cell? ⟨yb, yof + 1, none⟩ = some (.string (zs y)) := ⟨cells_keepL bf (Nat.le_refl _) _ _ hS0.1, cells_keepL bf (Nat.le_refl _) _ _ hS0.2.1, cells_keepL bf (Nat.le_refl _) _ _ hS0.2.2⟩
          refine hK.out _ _ hS1 (fun hT => ?_)
          replace hOM := hOM.below bf hOM.lt
          replace hB := hB.trans (bf.mono hB.size)
          clear hK hS0 hT bf
          try simp only [put9T, List.set]
          refine tkT 9 98 (.string (F ++ ⟨#[47]⟩ ++ ikB y)) rfl rfl (by kernel_rfl) (fun _ _ _ _ _ h => h) (.inl ⟨by rfl, fun w' hSw => (by go_simp)⟩) (by assumption) ?_
          try simp only [put9T, List.set]
          refine wpAnyH_ready (rs := [10]) (by kernel_rfl) (by simp) ?_
          refine AllReadyH.cons rfl (fun K hK => ?_) AllReadyH.nil
          rw [if_pos (by rfl)]
          refine wp_lookup_int wf (.tmp 89) (.tmp 98) 50 (by rfl) 9 3 mlaw Tryz.underlying50 Tryz.underlying3 (mzero _) w1'.heap.size k (mapOf (LK t u (k - A0))) (by rfl) hOM (.string (F ++ ⟨#[47]⟩ ++ ikB y)) (klF t u (k - A0)) (by rfl) hkey ?_
          intro cc hat
          refine hK.out _ _ hS1 (fun hT => ?_)
          clear hK hT
          try simp only [put9T, List.set]
          refine tkT 11 100 (.int .i64 (IntKind.i64.wrap (cc + 1))) rfl rfl (by kernel_rfl) (fun _ _ _ _ _ h => h) (.inl ⟨by rfl, fun w' hSw => (by go_simp)⟩) (by assumption) ?_
          try simp only [put9T, List.set]
          refine wpAnyH_ready (rs := [12]) (by kernel_rfl) (by simp) ?_
          refine AllReadyH.cons rfl (fun K hK => ?_) AllReadyH.nil
          rw [if_pos (by rfl)]
          refine wp_mapUpdate_int wf (.tmp 89) (.tmp 98) (.tmp 100) 50 (by rfl) 9 3 mlaw Tryz.underlying50 _ w1'.heap.size k (mapOf (LK t u (k - A0))) (by rfl) hOM (by unfold maxLen; omega) (.string (F ++ ⟨#[47]⟩ ++ ikB y)) (.int .i64 (IntKind.i64.wrap (cc + 1))) (klF t u (k - A0)) (by rfl) (by rfl) hkey _ [] (plainElem_int Tryz.underlying3 (wrap_wfI _)) ?_
          intro wg hOM2 hg2
          have hB2 := hB.grown hg2 hB.size (fun j hj => by cases hj; exact Nat.le_refl _)
          have hS2 : wg.cell? ⟨fb, fof, none⟩ = some (.string F) ∧ wg.cell? ⟨yb, yof, none⟩ = some (.bool (zb y)) ∧ wg.cell? ⟨yb, yof + 1, none⟩ = some (.string (zs y)) := ⟨hOM.cell_keep hg2 hS1.1, hOM.cell_keep hg2 hS1.2.1, hOM.cell_keep hg2 hS1.2.2⟩
          refine hK.out _ _ hS2 (fun hT => ?_)
          clear hK hT
          try simp only [put9T, List.set]
          refine wpAnyH_done (by kernel_rfl) ?_ _
          have hct := ctOf_eq hat
          have hOM3 : OM wg w1'.heap.size (k + 1) (mapOf (LK t u (k - A0 + 1))) := by
            rw [LK_succ, mapOf_snoc]
            unfold bump
            rw [hct]
            exact hOM2
          clear hOM2 hS1 hS2 hct hat hg2 hOM hB
          go_wp2_with fail
          have hwk : IntKind.u64.wrap ((k : Int) + 1) = ((k + 1 : Nat) : Int) := by rw [IntKind.wrap_u64]; omega
          exact ⟨⟨k + 1, by omega, by go_num, by rw [hmin2]; exact hOM3, hB2⟩, by simp [intOf]; omega⟩
        · have hmin : min (k + 1 - A0) (2 * t - 1) = min (k - A0) (2 * t - 1) := by omega
          replace hOM := hOM.below bd hOM.lt
          replace hB := hB.trans (bd.mono hB.size)
          clear HR hNS bd HEN
          go_wp2_with fail
          have hwk : IntKind.u64.wrap ((k : Int) + 1) = ((k + 1 : Nat) : Int) := by rw [IntKind.wrap_u64]; omega
          exact ⟨⟨k + 1, by omega, by go_num, by rw [hmin]; exact World.ownsMap.mono hOM (Nat.le_succ _), hB⟩, by simp [intOf]; omega⟩
    · obtain rfl : k = 2 * m - 1 := by omega
      rw [show min (2 * m - 1 - A0) (2 * t - 1) = 2 * t - 1 by omega] at hOM
      have hlI : ¬ (((2 * m - 1 : Nat) : Int) < ((2 * m - 1 : Nat) : Int)) := by omega
      go_wp2_with fail
      go_ret2
      exact TRP.mk rfl hsz0 hOM hbw
end Go.Proofs.YtapmeiaonnnmdaaGreatDoor
