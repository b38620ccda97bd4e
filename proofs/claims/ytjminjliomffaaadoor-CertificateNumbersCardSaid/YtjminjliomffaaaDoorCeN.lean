import Derived.Test.YtjminjliomffaaaDoorCeE
import Derived.Test.YtjminjliomffaaaDoorCeL
/- What Find adds is accepted by Check, plain: every step is well-formed and correct, its base the least. No program in sight. -/
namespace Go.Proofs.YtjminjliomffaaaDoor.Num
set_option maxRecDepth 20000
theorem pow_cancel {p x y : Nat} (hp : 0 < p) : ∀ {i m : Nat}, p ^ i * x = p ^ m * y → ¬ p ∣ x → ¬ p ∣ y → i = m ∧ x = y
  | 0, 0, h, _, _ => ⟨rfl, by simpa using h⟩
  | 0, m + 1, h, hx, _ => by
    refine absurd ?_ hx
    rw [Nat.pow_zero, Nat.one_mul, Nat.pow_succ] at h
    rw [h, Nat.mul_comm (p ^ m), Nat.mul_assoc]
    exact Nat.dvd_mul_right _ _
  | i + 1, 0, h, _, hy => by
    refine absurd ?_ hy
    rw [Nat.pow_zero, Nat.one_mul, Nat.pow_succ] at h
    rw [← h, Nat.mul_comm (p ^ i), Nat.mul_assoc]
    exact Nat.dvd_mul_right _ _
  | i + 1, m + 1, h, hx, hy => by
    have h2 : p ^ i * x = p ^ m * y := by
      rw [Nat.pow_succ, Nat.pow_succ, Nat.mul_comm (p ^ i), Nat.mul_comm (p ^ m), Nat.mul_assoc, Nat.mul_assoc] at h
      exact Nat.eq_of_mul_eq_mul_left hp h
    obtain ⟨h3, h4⟩ := pow_cancel hp h2 hx hy
    exact ⟨by omega, h4⟩
theorem strip_char {p r o : Nat} (hp : 2 ≤ p) (hr : 1 ≤ r) (hb : r < 2 ^ 1024) : ∃ v x, strip 1024 p r o = (x, o * p ^ v) ∧ r = p ^ v * x ∧ ¬ p ∣ x ∧ 1 ≤ x ∧ x ≤ r := by
  obtain ⟨v, h1, h2⟩ := strip_spec 1024 p r o (by omega)
  refine ⟨v, (strip 1024 p r o).1, Prod.ext rfl h1, h2, strip_not 1024 p r o hp hr hb, ?_, ?_⟩
  · rcases Nat.eq_zero_or_pos (strip 1024 p r o).1 with h | h
    · rw [h, Nat.mul_zero] at h2; omega
    · exact h
  · exact Nat.le_of_dvd (by omega) ⟨p ^ v, by rw [Nat.mul_comm]; exact h2⟩
theorem partF_swap {a b r o : Nat} {l : List Nat} (ha : IsP a) (hb : IsP b) (hab : a ≠ b) (hr : 1 ≤ r) (hl : r < 2 ^ 1024) : partF (a :: b :: l) r o = partF (b :: a :: l) r o := by
  obtain ⟨i, x, e1, h1, n1, x1, x2⟩ := strip_char (p := a) (o := o) ha.1 hr hl
  obtain ⟨j, y, e2, h2, n2, y1, y2⟩ := strip_char (p := b) (r := x) (o := o * a ^ i) hb.1 x1 (by omega)
  obtain ⟨k, s, e3, h3, n3, s1, s2⟩ := strip_char (p := b) (o := o) hb.1 hr hl
  obtain ⟨m, t, e4, h4, n4, t1, t2⟩ := strip_char (p := a) (r := s) (o := o * b ^ k) ha.1 s1 (by omega)
  have nab : ∀ j y, ¬ a ∣ y → ¬ a ∣ b ^ j * y := fun j y hy hd => by
    rcases ha.dvd_mul hd with h | h
    · rcases hb.2 a (ha.dvd_pow h) with h | h <;> have := ha.1 <;> omega
    · exact hy h
  have nba : ∀ j y, ¬ b ∣ y → ¬ b ∣ a ^ j * y := fun j y hy hd => by
    rcases hb.dvd_mul hd with h | h
    · rcases ha.2 b (hb.dvd_pow h) with h | h <;> have := hb.1 <;> omega
    · exact hy h
  have hat : ¬ a ∣ y := fun h => n1 (by rw [h2]; exact Nat.dvd_trans h (Nat.dvd_mul_left _ _))
  have hbt : ¬ b ∣ t := fun h => n3 (by rw [h4]; exact Nat.dvd_trans h (Nat.dvd_mul_left _ _))
  have e : a ^ i * (b ^ j * y) = a ^ m * (b ^ k * t) := by
    rw [← h2, ← h1, Nat.mul_left_comm, ← h4]; exact h3
  obtain ⟨him, hyt⟩ := pow_cancel (by have := ha.1; omega) e (nab j y hat) (nab k t n4)
  obtain ⟨hjk, hyt2⟩ := pow_cancel (by have := hb.1; omega) hyt n2 hbt
  subst him hjk hyt2
  show partF l (strip 1024 b (strip 1024 a r o).1 (strip 1024 a r o).2).1 (strip 1024 b (strip 1024 a r o).1 (strip 1024 a r o).2).2 = partF l (strip 1024 a (strip 1024 b r o).1 (strip 1024 b r o).2).1 (strip 1024 a (strip 1024 b r o).1 (strip 1024 b r o).2).2
  rw [e1, e3]
  simp only
  rw [e2, e4]
  simp only [Nat.mul_assoc, Nat.mul_comm (a ^ i)]
theorem partF_perm {l l' : List Nat} (h : l.Perm l') : (∀ q ∈ l, IsP q) → l.Nodup → ∀ r o, 1 ≤ r → r < 2 ^ 1024 → partF l r o = partF l' r o := by
  induction h with
  | nil => intro _ _ r o _ _; rfl
  | @cons x l l' _ ih =>
    intro hp hn r o h1 h2
    obtain ⟨v, y, e, _, _, y1, y2⟩ := strip_char (p := x) (o := o) (hp x (by simp)).1 h1 h2
    show partF l (strip 1024 x r o).1 _ = partF l' (strip 1024 x r o).1 _
    rw [e]
    exact ih (fun q hq => hp q (by simp [hq])) (List.nodup_cons.1 hn).2 _ _ y1 (by omega)
  | swap a b l =>
    intro hp hn r o h1 h2
    exact partF_swap (hp b (by simp)) (hp a (by simp)) (fun e => (List.nodup_cons.1 hn).1 (by simp [e])) h1 h2
  | @trans l1 l2 l3 h1 h2 ih1 ih2 =>
    intro hp hn r o a1 a2
    rw [ih1 hp hn r o a1 a2]
    exact ih2 (fun q hq => hp q (h1.mem_iff.2 hq)) (h1.nodup_iff.1 hn) r o a1 a2
theorem all_perm {l l' : List Nat} (h : l.Perm l') (f : Nat → Bool) : l.all f = l'.all f := by
  rw [Bool.eq_iff_iff, List.all_eq_true, List.all_eq_true]
  exact ⟨fun g x hx => g x (h.mem_iff.2 hx), fun g x hx => g x (h.mem_iff.1 hx)⟩
theorem provB_perm {l l' : List Nat} (h : l.Perm l') (n a : Nat) : provB n a l = provB n a l' := by unfold provB; rw [all_perm h]
theorem corB_perm {l l' : List Nat} (h : l.Perm l') (hp : ∀ q ∈ l, IsP q) (hn : l.Nodup) {n a : Nat} (h2 : 2 ≤ n) (hb : n < 2 ^ 1024) : corB n a l = corB n a l' := by
  unfold corB
  rw [all_perm h, provB_perm h, partF_perm h hp hn (n - 1) 1 (by omega) (by omega)]
theorem baseR_perm {l l' : List Nat} (h : l.Perm l') {n b : Nat} (k : BaseR n l (some b)) : BaseR n l' (some b) := by
  obtain ⟨h1, h2, h3, h4⟩ := k
  exact ⟨h1, h2, by rw [← provB_perm h]; exact h3, fun x a1 a2 => by rw [← provB_perm h]; exact h4 x a1 a2⟩
theorem asc_of {i : Nat} : ∀ {lo : Int} {F : List Int}, (∀ f ∈ F, lo < f) → F.Pairwise (· < ·) → (∀ f ∈ F, f < (i : Int)) → asc i lo F = true
  | _, [], _, _, _ => rfl
  | lo, f :: r, h1, h2, h3 => by
    have h4 := List.pairwise_cons.1 h2
    simp only [asc, Bool.and_eq_true, decide_eq_true_eq]
    exact ⟨h1 f (by simp), h3 f (by simp), asc_of h4.1 h4.2 fun g hg => h3 g (by simp [hg])⟩
/-- a step that stands well -/
structure GoodAt (S : List Stp) (i : Nat) (s : Stp) : Prop where
  wf : wfB i s = true
  cr : crB S s = true
  can : s.1 = enc (nv s.1)
  base : s.2.2 ≠ [] → ∃ b, s.2.1 = enc b ∧ BaseR (nv s.1) (s.2.2.map (prm S)) (some b)
structure Good (S : List Stp) : Prop where
  at' : ∀ i (hi : i < S.length), GoodAt S i S[i]
  nd : (S.map fun s => nv s.1).Nodup
theorem wfB_idx {i : Nat} {s : Stp} (h : wfB i s = true) : ∀ f ∈ s.2.2, 0 ≤ f ∧ f < (i : Int) := by
  intro f hf
  unfold wfB at h
  simp only [Bool.and_eq_true] at h
  have h3 := h.2.2
  rw [if_neg (fun e => by rw [e] at hf; cases hf)] at h3
  simp only [Bool.and_eq_true] at h3
  have := asc_mem h3.1 f hf
  exact ⟨by omega, this.2⟩
theorem prm_app {S : List Stp} {t : Stp} {f : Int} (h0 : 0 ≤ f) (h : f < (S.length : Int)) : prm (S ++ [t]) f = prm S f := by
  unfold prm
  have : f.toNat < S.length := by omega
  rw [List.getD_eq_getElem?_getD, List.getD_eq_getElem?_getD, List.getElem?_append_left this]
theorem GoodAt.app {S : List Stp} {i : Nat} {s t : Stp} (h : GoodAt S i s) (hi : i ≤ S.length) : GoodAt (S ++ [t]) i s := by
  have e : s.2.2.map (prm (S ++ [t])) = s.2.2.map (prm S) := List.map_congr_left fun f hf => by
    have := wfB_idx h.wf f hf
    exact prm_app this.1 (by omega)
  refine ⟨h.wf, ?_, h.can, fun hne => ?_⟩
  · have := h.cr
    unfold crB at this ⊢
    rw [e]; exact this
  · rw [e]; exact h.base hne
theorem Good.wfAll {S : List Stp} (h : Good S) : wfAll S = true := by
  unfold Num.wfAll
  refine List.all_eq_true.2 fun k hk => ?_
  have hk' : k < S.length := by simpa using hk
  rw [show S.getD k (⟨#[]⟩, ⟨#[]⟩, []) = S[k] by simp [List.getD_eq_getElem?_getD, hk']]
  exact (h.at' k hk').wf
theorem Good.crAll {S : List Stp} (h : Good S) : S.all (crB S) = true := by
  refine List.all_eq_true.2 fun s hs => ?_
  obtain ⟨i, hi, rfl⟩ := List.mem_iff_getElem.1 hs
  exact (h.at' i hi).cr
theorem Good.prime {S : List Stp} (h : Good S) {n : Nat} (k : knownB S n = true) : IsP n := by
  have := ckC_prime h.wfAll h.crAll (idx S n) (idx_lt k)
  rwa [idx_at k] at this
theorem Good.snoc {S : List Stp} {t : Stp} (h : Good S) (k : knownB S (nv t.1) = false) (g : GoodAt (S ++ [t]) S.length t) : Good (S ++ [t]) := by
  refine ⟨fun i hi => ?_, ?_⟩
  · rcases Nat.lt_or_ge i S.length with h1 | h1
    · rw [List.getElem_append_left h1]
      exact (h.at' i h1).app (by omega)
    · have : i = S.length := by simp at hi; omega
      subst this
      simpa using g
  · rw [List.map_append]
    refine List.nodup_append.2 ⟨h.nd, by simp, fun x hx y hy e => ?_⟩
    have hy' : y = nv t.1 := by simpa using hy
    obtain ⟨s, hs, hsx⟩ := List.mem_map.1 hx
    have : knownB S (nv t.1) = true := by unfold knownB; exact List.any_eq_true.2 ⟨s, hs, by rw [hsx, e, hy']; simp⟩
    rw [this] at k; cases k
theorem valid_enc {n : Nat} (h : n < 2 ^ 1024) : validB (enc n) = true := by
  have h2 : (256 : Nat) ^ 128 = 2 ^ 1024 := by decide +kernel
  have h3 : blen n ≤ 128 := (blen_le_iff n 128).2 (by omega)
  unfold validB
  rw [decide_eq_true]
  exact ⟨by rw [size_enc]; exact h3, canon_enc n⟩
theorem good_tiny {S : List Stp} (h : Good S) {n : Nat} (k : knownB S n = false) (ht : tinyB n = true) : Good (S ++ [tinyS n]) := by
  unfold tinyB at ht
  have ht' := ht
  simp only [Bool.and_eq_true, decide_eq_true_eq] at ht
  have h2 : 2 ≤ n := by
    rcases Nat.lt_or_ge n 2 with h1 | h1
    · rw [isB_small h1] at ht; exact absurd ht.2 (by simp)
    · exact h1
  have hv := valid_enc (n := n) (Nat.lt_trans ht.1 (by decide +kernel))
  refine h.snoc (by rw [show nv (tinyS n).1 = n from nv_enc n]; exact k) ⟨?_, ?_, ?_, fun hne => absurd rfl hne⟩
  · unfold wfB tinyS
    simp only
    rw [hv, nv_enc, decide_eq_true h2]
    rfl
  · unfold crB tinyS
    simp only [nv_enc]
    exact ht'
  · show enc n = enc (nv (enc n)); rw [nv_enc]
theorem good_step {S1 : List Stp} (h : Good S1) {n b : Nat} (hb : n < 2 ^ 1024) (k : knownB S1 n = false) (hp : probB n = true) (he : enoughB n = true) (hall : ∀ f ∈ facs n, knownB S1 f = true) (hB : BaseR n (facs n) (some b)) : Good (S1 ++ [stepS S1 n b]) := by
  have hbig := probB_big hp
  have hpw := facs_pw (by omega) hb
  have hnd : (facs n).Nodup := hpw.imp fun h => Nat.ne_of_lt h
  have hpr : ∀ f ∈ facs n, IsP f := fun f hf => h.prime (hall f hf)
  obtain ⟨G, hG⟩ : ∃ G, (facs n).map (fun f => ((idx S1 f : Nat) : Int)) = G := ⟨_, rfl⟩
  have hstep : stepS S1 n b = (enc n, enc b, G.mergeSort fun x y => decide (x ≤ y)) := by unfold stepS; rw [hG]
  rw [hstep]
  have hperm : (G.mergeSort fun x y => decide (x ≤ y)).Perm G := List.mergeSort_perm _ _
  obtain ⟨F, hF⟩ : ∃ F, (G.mergeSort fun x y => decide (x ≤ y)) = F := ⟨_, rfl⟩
  have hsrt : F.Pairwise fun x y => x ≤ y := by
    rw [← hF]
    have := List.pairwise_mergeSort (le := fun x y : Int => decide (x ≤ y)) (fun a b c h1 h2 => by simp only [decide_eq_true_eq] at *; omega) (fun a b => by simp only [Bool.or_eq_true, decide_eq_true_eq]; omega) G
    exact this.imp fun h => by simpa using h
  rw [hF] at hperm ⊢
  have hGnd : G.Nodup := by
    rw [← hG]
    refine List.Pairwise.map _ (fun a b hab => hab) ?_
    refine List.Pairwise.imp_of_mem ?_ hpw
    intro x y hx hy hlt e
    have e2 : idx S1 x = idx S1 y := by omega
    have a1 := idx_at (hall x hx)
    have a2 := idx_at (hall y hy)
    have : x = y := by rw [← a1, ← a2]; congr 1; simp only [e2]
    omega
  have hFnd : F.Nodup := hperm.nodup_iff.2 hGnd
  have hlt : F.Pairwise (· < ·) := (hsrt.and hFnd).imp fun h => by have := h.1; have := h.2; omega
  have hrange : ∀ f ∈ F, 0 ≤ f ∧ f < (S1.length : Int) := fun f hf => by
    have := hperm.mem_iff.1 hf
    rw [← hG] at this
    obtain ⟨x, hx, rfl⟩ := List.mem_map.1 this
    have := idx_lt (hall x hx)
    omega
  have hne : F ≠ [] := fun e => by
    have h1 : F.length = (facs n).length := by rw [hperm.length_eq, ← hG, List.length_map]
    rw [e] at h1
    have h2 : (2 : Nat) ∈ facs n := by
      obtain ⟨_, _, _, _, h5⟩ := spl_spec (n := n - 1) (by omega) (by omega)
      have := h5 2 (by omega) isP2 (Nat.dvd_of_mod_eq_zero (by have := probB_odd hp; omega))
      unfold facs; split
      · exact List.mem_append_left _ this
      · exact this
    have := List.length_pos_of_mem h2
    simp at h1; omega
  have hmap : (F.map (prm (S1 ++ [(enc n, enc b, F)]))).Perm (facs n) := by
    have e1 : (G.map (prm (S1 ++ [(enc n, enc b, F)]))) = facs n := by
      rw [← hG, List.map_map]
      conv => rhs; rw [← List.map_id (facs n)]
      refine List.map_congr_left fun f hf => ?_
      show prm _ ((idx S1 f : Nat) : Int) = f
      have hl := idx_lt (hall f hf)
      rw [prm_app (by omega) (by omega)]
      unfold prm
      rw [List.getD_eq_getElem?_getD, Int.toNat_natCast, List.getElem?_eq_getElem hl]
      exact idx_at (hall f hf)
    rw [← e1]
    exact hperm.map _
  obtain ⟨b1, b2, b3, b4⟩ := hB
  have hcor : corB n b (facs n) = true := by
    unfold corB
    unfold enoughB at he
    rw [he, b3, Bool.and_true, Bool.and_true]
    refine List.all_eq_true.2 fun q hq => ?_
    have := (facs_mem (by omega) hb hq).2.1
    rw [beq_iff_eq]
    exact Nat.mod_eq_zero_of_dvd this
  refine h.snoc (by rw [show nv (enc n, enc b, F).1 = n from nv_enc n]; exact k) ⟨?_, ?_, ?_, fun _ => ⟨b, rfl, ?_⟩⟩
  · unfold wfB
    simp only
    rw [if_neg hne, valid_enc hb, valid_enc (n := b) (by omega), nv_enc, nv_enc, decide_eq_true (show 2 ≤ n by omega), decide_eq_true b1, decide_eq_true b2, asc_of (fun f hf => by have := (hrange f hf).1; omega) hlt fun f hf => (hrange f hf).2]
    rfl
  · unfold crB
    simp only
    rw [if_neg hne, nv_enc, nv_enc]
    rw [← corB_perm hmap.symm hpr hnd (by omega) hb]
    exact hcor
  · show enc n = enc (nv (enc n)); rw [nv_enc]
  · show BaseR (nv (enc n)) _ _
    rw [nv_enc]
    exact baseR_perm hmap.symm ⟨b1, b2, b3, b4⟩
theorem AddL.good {l : List Nat} {S S1 : List Stp} {e : Int} (h : AddL l S e S1) : (∀ f ∈ l, f < 2 ^ 1024) → Good S → Good S1 := by
  induction h with
  | nil S => exact fun _ g => g
  | known _ _ ih => exact fun hb g => ih (fun f hf => hb f (by simp [hf])) g
  | tiny h1 h2 _ ih => exact fun hb g => ih (fun f hf => hb f (by simp [hf])) (good_tiny g h1 h2)
  | bad => exact fun _ g => g
  | few => exact fun _ g => g
  | @sub n r S e S1 h1 h2 h3 h4 h5 h6 ih =>
    intro hb g
    have hn := hb n (by simp)
    have := probB_big h3
    exact ih (fun f hf => by have := (facs_mem (by omega) hn hf).2.2; omega) g
  | @none n r S S1 h1 h2 h3 h4 h5 h6 ih =>
    intro hb g
    have hn := hb n (by simp)
    have := probB_big h3
    exact ih (fun f hf => by have := (facs_mem (by omega) hn hf).2.2; omega) g
  | @step n r S S1 b e S' h1 h2 h3 h4 h5 h6 h7 ih1 ih2 =>
    intro hb g
    have hn := hb n (by simp)
    have hbig := probB_big h3
    have hfn : ∀ f ∈ facs n, f < 2 ^ 1024 := fun f hf => by have := (facs_mem (by omega) hn hf).2.2; omega
    have g1 := ih1 hfn g
    have hk : knownB S1 n = false := (h5.fresh hfn n fun f hf => (facs_mem (by omega) hn hf).2.2).trans h1
    exact ih2 (fun f hf => hb f (by simp [hf])) (good_step g1 hn hk h3 h4 (h5.all rfl) h6)
theorem good_nil : Good [] := ⟨fun i hi => by simp at hi, by simp⟩
/-- a certificate that was found ends with the number -/
theorem add_last {n : Nat} {S : List Stp} (h : AddL [n] [] 0 S) : ∃ T s, S = T ++ [s] ∧ s.1 = enc n := by
  cases h with
  | known h _ => cases h
  | tiny _ _ h => cases h; exact ⟨[], _, rfl, rfl⟩
  | @step _ _ _ S1 b _ _ _ _ _ _ _ _ h => cases h; exact ⟨S1, _, rfl, rfl⟩
/-- Check accepts what Find returns -/
theorem find_ck {n : Nat} {S : List Stp} (hn : n < 18446744073709551616) (h : AddL [n] [] 0 S) : ckC S = 0 := by
  have hb : n < 2 ^ 1024 := Nat.lt_trans hn (by decide +kernel)
  have g := h.good (fun f hf => by rw [List.mem_singleton.1 hf]; exact hb) good_nil
  have hl := h.size (fun f hf => by rw [List.mem_singleton.1 hf]; exact hb)
  obtain ⟨T, s, e, _⟩ := add_last h
  have hw : wt n ≤ 256 := by
    unfold wt
    split
    · omega
    · have : Nat.log2 n < 64 := by rw [Nat.log2_lt (by omega)]; exact hn
      omega
  simp only [wts, List.length_nil] at hl
  have h0 : S.length ≠ 0 := by rw [e]; simp
  unfold ckC
  rw [if_pos g.wfAll, if_neg h0, if_neg (by omega), if_pos g.crAll]
/-- with a smaller base a step is not correct -/
theorem base_ck {S : List Stp} (g : Good S) (hl : S.length ≤ 256) {k a b : Nat} (hk : k < S.length) (hF : S[k].2.2 ≠ []) (hb : S[k].2.1 = enc b) (ha : 2 ≤ a) (hab : a < b) : ckC (S.set k (S[k].1, enc a, S[k].2.2)) = 12 := by
  obtain ⟨D, hD⟩ : ∃ D, S.set k (S[k].1, enc a, S[k].2.2) = D := ⟨_, rfl⟩
  rw [hD]
  have hDl : D.length = S.length := by rw [← hD, List.length_set]
  have hDo : ∀ i (hi : i < S.length), i ≠ k → D[i]'(by omega) = S[i] := fun i hi hne => by subst hD; rw [List.getElem_set_ne (fun e => hne e.symm)]
  have hDk : D[k]'(by omega) = (S[k].1, enc a, S[k].2.2) := by subst hD; rw [List.getElem_set_self]
  have gk := g.at' k hk
  obtain ⟨b', e1, b1, b2, b3, b4⟩ := gk.base hF
  have hbb : b' = b := enc_inj (e1.symm.trans hb)
  subst hbb
  have hw : wfAll D = true := by
    unfold wfAll
    refine List.all_eq_true.2 fun i hi => ?_
    have hi' : i < D.length := by simpa using hi
    rw [show D.getD i (⟨#[]⟩, ⟨#[]⟩, []) = D[i] by simp [List.getD_eq_getElem?_getD, hi']]
    by_cases hik : i = k
    · subst hik
      rw [hDk]
      have := gk.wf
      unfold wfB at this ⊢
      simp only [Bool.and_eq_true, decide_eq_true_eq] at this ⊢
      obtain ⟨h1, h2, h3⟩ := this
      rw [if_neg hF] at h3 ⊢
      simp only [Bool.and_eq_true, decide_eq_true_eq] at h3 ⊢
      have hv : validB (enc a) = true := by
        have h4 := h3.2.1
        rw [e1] at h4
        have h5 := of_decide_eq_true h4
        have h6 : blen b' ≤ 128 := by rw [← size_enc]; exact h5.1
        unfold validB
        exact decide_eq_true ⟨by rw [size_enc]; exact Nat.le_trans (blen_mono (Nat.le_of_lt hab)) h6, canon_enc a⟩
      exact ⟨h1, h2, h3.1, hv, by rw [nv_enc]; exact ha, by rw [nv_enc]; omega⟩
    · rw [hDo i (by omega) hik]
      exact (g.at' i (by omega)).wf
  have hc : D.all (crB D) = false := by
    rw [List.all_eq_false]
    refine ⟨D[k]'(by omega), List.getElem_mem _, ?_⟩
    rw [hDk, Bool.not_eq_true]
    unfold crB
    simp only
    rw [if_neg hF, nv_enc]
    have e : S[k].2.2.map (prm D) = S[k].2.2.map (prm S) := List.map_congr_left fun f hf => by
      have hf' := wfB_idx gk.wf f hf
      have h1 : f.toNat < S.length := by omega
      unfold prm
      rw [List.getD_eq_getElem?_getD, List.getD_eq_getElem?_getD, List.getElem?_eq_getElem (by omega), List.getElem?_eq_getElem h1, hDo _ h1 (by omega)]
    rw [e]
    unfold corB
    rw [b4 a ha hab]
    simp
  unfold ckC
  rw [if_pos hw, if_neg (by omega), if_neg (by omega), hc]
  rfl
theorem ckC_len {S : List Stp} (h : ckC S = 0) : S.length ≠ 0 ∧ S.length ≤ 256 := by
  unfold ckC at h
  split at h
  · split at h
    · cases h
    · next h1 =>
      split at h
      · cases h
      · next h2 => exact ⟨h1, by omega⟩
  · cases h
end Go.Proofs.YtjminjliomffaaaDoor.Num

/- Certificates that were found: their copies, and what may be turned in them. -/
namespace Go.Proofs.YtjminjliomffaaaDoor
open Go.RowKit Num
set_option maxRecDepth 20000
set_option linter.unusedVariables false
theorem ok_of_wf {R : List StR} (h : wfAll (R.map stp) = true) (hl : ∀ x ∈ R, x.2.2.2.2.length ≤ maxLen) (hr : R.length ≤ 500000) : ∀ x ∈ R, x.ok := by
  intro x hx
  have hlx := hl x hx
  obtain ⟨k, hk, rfl⟩ := List.mem_iff_getElem.1 hx
  have hw := wfAll_at h hk
  have hi := wfB_idx hw
  generalize R[k] = y at hw hi hlx
  obtain ⟨P, A, fa, fc, F⟩ := y
  have hw' := hw
  unfold wfB stp at hw'
  simp only [Bool.and_eq_true, decide_eq_true_eq] at hw'
  have v1 : ∀ {s : ByteArray}, validB s = true → s.size ≤ maxLen := fun h => by unfold validB at h; have := (of_decide_eq_true h).1; unfold maxLen; omega
  refine ⟨v1 hw'.1, ?_, hlx, fun n hn => ?_⟩
  · have h3 := hw'.2.2
    by_cases hF : F = []
    · rw [if_pos hF] at h3
      have : A.size = 0 := of_decide_eq_true h3
      show A.size ≤ maxLen
      omega
    · rw [if_neg hF] at h3
      simp only [Bool.and_eq_true] at h3
      exact v1 h3.2.1
  · have := hi n hn
    simp [Lit.wf, IntKind.min, IntKind.max, IntKind.signed, IntKind.bits]
    omega
/-- the cells of a step of a copy are turned -/
theorem CS.set {w : World} {g k : Nat} {R : List StR} (h : CS w (some ⟨g, 0, none⟩) R) (hk : k < R.length) (u : ByteArray) :
    CS (w.setCell ⟨g, k * 3 + 1, none⟩ (.string u)) (some ⟨g, 0, none⟩) (R.set k (R[k].1, u, R[k].2.2)) := by
  have hold : ∃ t, w.cell? ⟨g, k * 3 + 1, none⟩ = some (.string t) := by
    obtain ⟨b, off, e, _, h2, _⟩ := h k hk
    injection e with e; injection e with e1 e2 _
    subst e1 e2
    exact ⟨_, by rw [Nat.zero_add] at h2; exact h2⟩
  obtain ⟨t, ht⟩ := hold
  have kp : ∀ (p : Addr) (v : Value), w.cell? p = some v → p ≠ ⟨g, k * 3 + 1, none⟩ → (w.setCell ⟨g, k * 3 + 1, none⟩ (.string u)).cell? p = some v := fun p v hv hne => by
    rw [World.cell?_setCell_other (h := fun e => hne e.symm)]; exact hv
  have kf : ∀ {a : Option Addr} {F : List Int}, FS w a F → FS (w.setCell ⟨g, k * 3 + 1, none⟩ (.string u)) a F := fun hF j hj => by
    obtain ⟨b, off, h1, h2⟩ := hF j hj
    exact ⟨b, off, h1, kp _ _ h2 fun e => by rw [e, ht] at h2; cases h2⟩
  intro i hi
  have hi' : i < R.length := by simpa using hi
  obtain ⟨b, off, e, h1, h2, h3, h4⟩ := h i hi'
  injection e with e; injection e with e1 e2 _
  subst e1 e2
  refine ⟨g, 0, rfl, ?_⟩
  by_cases hik : i = k
  · subst hik
    rw [List.getElem_set_self]
    refine ⟨kp _ _ h1 (by intro e; injection e with _ e; omega), ?_, kp _ _ h3 (by intro e; injection e with _ e; omega), kf h4⟩
    rw [Nat.zero_add]
    exact World.cell?_setCell_same' _ _ _ (by rw [ht]; rfl)
  · rw [List.getElem_set_ne (fun e => hik e.symm)]
    exact ⟨kp _ _ h1 (by intro e; injection e with _ e; omega), kp _ _ h2 (by intro e; injection e with _ e; omega), kp _ _ h3 (by intro e; injection e with _ e; omega), kf h4⟩
/-- the numbers of a certificate that was found are not greater than the number -/
theorem found_le {n : Nat} {S : List Stp} {e : Int} (h : AddL [n] [] e S) (hn : n < 2 ^ 1024) {i : Nat} (hi : i < S.length) : nv S[i].1 ≤ n := by
  rcases Nat.lt_or_ge n (nv S[i].1) with h1 | h1
  · have := h.fresh (fun f hf => by rw [List.mem_singleton.1 hf]; exact hn) (nv S[i].1) (fun f hf => by rw [List.mem_singleton.1 hf]; exact h1)
    have h2 : knownB S (nv S[i].1) = true := by unfold knownB; exact List.any_eq_true.2 ⟨S[i], List.getElem_mem hi, by simp⟩
    rw [h2] at this; cases this
  · exact h1
/-- the cells that are copied -/
theorem cs_cells {w : World} {b off : Nat} {R : List StR} (h : CS w (some ⟨b, off, none⟩) R) : ∀ j u, (cellsS R)[j]? = some u → w.cell? ((⟨b, off, none⟩ : Addr).add j) = some u := by
  intro j u hj
  have hl : ∀ R : List StR, (cellsS R).length = R.length * 3 := fun R => by
    induction R with
    | nil => rfl
    | cons r R ih => show ([_, _, _] ++ cellsS R).length = _; rw [List.length_append, ih]; simp; omega
  have hlt : j < R.length * 3 := by rw [← hl]; exact (List.getElem?_eq_some_iff.1 hj).1
  have hk : j / 3 < R.length := by omega
  have e := cellsS_at R (j / 3) (j % 3) hk (Nat.mod_lt _ (by omega))
  rw [show j / 3 * 3 + j % 3 = j by omega] at e
  rw [e] at hj
  obtain ⟨b', off', e', h1, h2, h3, _⟩ := h (j / 3) hk
  injection e' with e'; injection e' with e1 e2 _
  subst e1 e2
  rw [Go.WideShapes.add_plain]
  have hm : j % 3 < 3 := Nat.mod_lt _ (by omega)
  have hj3 : j = j / 3 * 3 + j % 3 := by omega
  generalize j % 3 = m at hj hm hj3
  match m, hm with
  | 0, _ => rw [hj3, ← Nat.add_assoc, Nat.add_zero, h1]; simpa using hj
  | 1, _ => rw [hj3, ← Nat.add_assoc, h2]; simpa using hj
  | 2, _ => rw [hj3, ← Nat.add_assoc, h3]; simpa using hj
theorem cellsS_one (R : List StR) : ∀ u ∈ cellsS R, u.oneCell' = true := by
  intro u hu
  unfold cellsS at hu
  obtain ⟨r, _, hr⟩ := List.mem_flatMap.1 hu
  simp only [List.mem_cons, List.not_mem_nil, or_false] at hr
  rcases hr with rfl | rfl | rfl <;> rfl
theorem cellsS_len (R : List StR) : (cellsS R).length = R.length * 3 := by
  induction R with
  | nil => rfl
  | cons r R ih => show ([_, _, _] ++ cellsS R).length = _; rw [List.length_append, ih]; simp; omega
/-- a copy of the steps -/
theorem CS.copy {w w' : World} {b off g c B : Nat} {R : List StR} (h : CS w (some ⟨b, off, none⟩) R) (ho : w'.ownsRow B 44 3 (.slice (some ⟨g, 0, none⟩) R.length c) R.length (cellsS R)) (kp : ∀ p v, w.cell? p = some v → w'.cell? p = some v) : CS w' (some ⟨g, 0, none⟩) R := by
  intro k hk
  obtain ⟨_, _, _, _, _, _, hF⟩ := h k hk
  have ch : ∀ j, j < 3 → w'.cell? ⟨g, k * 3 + j, none⟩ = [Value.string R[k].1, .string R[k].2.1, .slice R[k].2.2.1 R[k].2.2.2.2.length R[k].2.2.2.1][j]? := fun j hj => by
    rw [ho.cellAt (k * 3 + j) (by omega), cellsS_at R k j hk hj]
  refine ⟨g, 0, rfl, ?_, ?_, ?_, hF.keep kp⟩
  · rw [Nat.zero_add]; exact ch 0 (by omega)
  · rw [Nat.zero_add]; exact ch 1 (by omega)
  · rw [Nat.zero_add]; exact ch 2 (by omega)
/-- the row that is to take the copy -/
theorem own_empty (w : World) : (w.alloc (.cells #[] 44)).ownsRow w.heap.size 44 3 (.slice (some ⟨w.heap.size, 0, none⟩) 0 0) 0 [] :=
  ⟨rfl, .inr ⟨w.heap.size, 0, #[], rfl, Nat.le_refl _, heap_alloc_new w _, Nat.le_refl _, Nat.zero_le _, rfl, rfl⟩⟩
end Go.Proofs.YtjminjliomffaaaDoor
