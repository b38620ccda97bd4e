/- Contracts of the package modular: Add, Mul. -/
import Derived.Test.YtdlbnioidfhhcaaGreatModA
namespace Go.Proofs.YtdlbnioidfhhcaaGreat
open Go.RowKit Num
set_option maxRecDepth 20000

theorem chk_ok {ls ms : List ByteArray} (h : ∀ x ∈ ls ++ ms, validB x = true) (h2 : ∀ x ∈ ms, x.size ≠ 0) : chk ls ms = 0 := by
  unfold chk
  rw [if_pos (by rw [List.all_eq_true]; exact h), if_neg]
  rw [List.any_eq_true]
  rintro ⟨x, hx, hx2⟩
  exact h2 x hx (by simpa using hx2)
theorem IsN.pos {s : ByteArray} {a : Nat} (h : IsN s a) (h0 : 0 < a) : s.size ≠ 0 := by rw [h.size]; have := blen_eq_zero a; omega
theorem chk21 {x y m : ByteArray} {a b n : Nat} (hx : IsN x a) (hy : IsN y b) (hm : IsN m n) (h0 : 0 < n) : chk [x, y] [m] = 0 :=
  chk_ok (by simp [hx.valid, hy.valid, hm.valid]) (by simpa using hm.pos h0)
theorem chk11 {x m : ByteArray} {a n : Nat} (hx : IsN x a) (hm : IsN m n) (h0 : 0 < n) : chk [x] [m] = 0 :=
  chk_ok (by simp [hx.valid, hm.valid]) (by simpa using hm.pos h0)

/-- two literal slices of strings, one behind the other -/
theorem StrAt.lit1 (w : World) (T : TypeId) (l : List ByteArray) (B : Obj) : StrAt ((w.alloc (.cells (l.map Value.string).toArray T)).alloc B) w.heap.size l := by
  intro j hj
  rw [World.cell?_alloc_lt _ _ _ (by simp), World.cell?_alloc_new]
  simp [hj]
theorem StrAt.lit2 (w : World) (T : TypeId) (l : List ByteArray) (B : Obj) : StrAt ((w.alloc B).alloc (.cells (l.map Value.string).toArray T)) (w.heap.size + 1) l := by
  intro j hj
  have := World.cell?_alloc_new (w.alloc B) (l.map Value.string).toArray T j
  rw [World.size_alloc] at this
  rw [this]
  simp [hj]
theorem below_two (w : World) (A B : Obj) : Below w.heap.size w ((w.alloc A).alloc B) := ((Below.refl _ w).alloc (Nat.le_refl _) _).alloc (by simp) _
theorem check21 (w : World) (x y m : ByteArray) :
    Calls Tryz.prog 71 #[.slice (some ⟨w.heap.size, 0, none⟩) 2 2, .slice (some ⟨w.heap.size + 1, 0, none⟩) 1 1] ((w.alloc (.cells #[.string x, .string y] 22)).alloc (.cells #[.string m] 22))
      fun e w' => e = .returned (.int .i64 (chk [x, y] [m])) ∧ Below w.heap.size w w' :=
  (check_any ((w.alloc (.cells #[.string x, .string y] 22)).alloc (.cells #[.string m] 22)) w.heap.size (w.heap.size + 1) [x, y] [m] (StrAt.lit1 w _ [x, y] _) (StrAt.lit2 w _ [m] _) (by simp) (by simp) (by simp) (by simp)).mono
    fun _ _ h => ⟨h.1, (below_two w _ _).trans (h.2.mono (by simp; omega))⟩
theorem check11 (w : World) (x m : ByteArray) :
    Calls Tryz.prog 71 #[.slice (some ⟨w.heap.size, 0, none⟩) 1 1, .slice (some ⟨w.heap.size + 1, 0, none⟩) 1 1] ((w.alloc (.cells #[.string x] 22)).alloc (.cells #[.string m] 22))
      fun e w' => e = .returned (.int .i64 (chk [x] [m])) ∧ Below w.heap.size w w' :=
  (check_any ((w.alloc (.cells #[.string x] 22)).alloc (.cells #[.string m] 22)) w.heap.size (w.heap.size + 1) [x] [m] (StrAt.lit1 w _ [x] _) (StrAt.lit2 w _ [m] _) (by simp) (by simp) (by simp) (by simp)).mono
    fun _ _ h => ⟨h.1, (below_two w _ _).trans (h.2.mono (by simp; omega))⟩

theorem mod_le {a m : Nat} {v : ByteArray} (hv : IsN v m) (h0 : 0 < m) : blen (a % m) ≤ 128 := Nat.le_trans (blen_mono (Nat.le_of_lt (Nat.mod_lt a h0))) hv.le


/-- Mul, by what times is known to give -/
theorem ModMul_of (s t v : ByteArray) (a b m : Nat) (w : World) (hs : IsN s a) (ht : IsN t b) (hv : IsN v m) (h0 : 0 < m)
    (hT : ∀ w, Calls Tryz.prog 74 #[.string s, .string t, .string v] w fun e w' => e = .returned (.string (enc (a * b % m))) ∧ Below w.heap.size w w') :
    Calls Tryz.prog 48 #[.string s, .string t, .string v] w fun e w' => e = .returned (.tuple #[.string (enc (a * b % m)), .int .i64 0]) ∧ Below w.heap.size w w' := by
  have hk := chk21 hs ht hv h0
  have HTM := Lib.hid hT; clear hT
  clear hs ht hv
  go_enter Tryz.func48, Tryz.ntmps48
  go_wp2_with fail
  refine (check21 w s t v).mono ?_; rintro e w1 ⟨rfl, hb1⟩
  rw [hk]
  go_wp2_with fail
  refine (HTM.out _).mono ?_; rintro e w2 ⟨rfl, hb2⟩
  go_wp2_with fail
  go_ret2
  exact ⟨rfl, hb1.trans (hb2.mono hb1.size)⟩
end Go.Proofs.YtdlbnioidfhhcaaGreat
