/- modular.Power. -/
import Derived.Test.YtoocpmmgoljncaaGreatJoin
namespace Go.Proofs.YtoocpmmgoljncaaGreat
open Go.RowKit Num
set_option maxRecDepth 20000
set_option linter.unusedVariables false
/-- what Power answers -/
def pwE (s : ByteArray) (ng : Bool) (t v : ByteArray) : Int := if validB t = true ∧ (ng && t.toList.isEmpty) = false then (if ng = true then ivE s v else chk [s] [v]) else 3
def pwS (s : ByteArray) (ng : Bool) (t v : ByteArray) : ByteArray := mo (pwE s ng t v) ((if ng = true then invm (nv s) (nv v) else nv s) ^ nv t % nv v)
theorem ivE_bad {s v : ByteArray} (h : chk [s] [v] ≠ 0) : ivE s v = chk [s] [v] := by unfold ivE; rw [if_neg h]
theorem chk_one {s t v : ByteArray} {a b m : Nat} (hs : IsN s a) (ht : IsN t b) (hv : IsN v m) (h0 : 0 < m) : chk [s, t] [v] = 0 := chk21 hs ht hv h0
section
variable {W : World} {p : Nat} {ng : Bool} {t : ByteArray}
/-- a variable of type api.Int -/
def IB (W : World) (b : Nat) (ng : Bool) (t : ByteArray) : Prop := W.heap[b]? = some (.cells #[.bool ng, .string t] 24 (0, 0))
theorem IB.lt (h : IB W p ng t) : p < W.heap.size := (Array.getElem?_eq_some_iff.1 h).1
theorem IB.c0 (h : IB W p ng t) : W.cell? ⟨p, 0, none⟩ = some (.bool ng) := by rw [Lib.cell_of_heap h]; rfl
theorem IB.c1 (h : IB W p ng t) : W.cell? ⟨p, 1, none⟩ = some (.string t) := by rw [Lib.cell_of_heap h]; rfl
theorem IB.new (W : World) (ng : Bool) (t : ByteArray) : IB (W.alloc (.cells #[.bool ng, .string t] 24)) W.heap.size ng t := heap_alloc_new W _
theorem IB.below {W' : World} {K : Nat} (h : IB W p ng t) (hb : Below K W W') (hB : p < K) : IB W' p ng t := (hb.block p hB).trans h
end
set_option maxHeartbeats 4000000 in
theorem Power_any (s : ByteArray) (ng : Bool) (t v : ByteArray) (w : World) :
    Calls Tryz.prog 14 #[.string s, .agg #[.bool ng, .string t], .string v] w fun e w' => e = .returned (.tuple #[.string (pwS s ng t v), .int .i64 (pwE s ng t v)]) ∧ Below w.heap.size w w' := by
  have hb := (Below.refl _ w).alloc (Nat.le_refl _) (.cells #[.bool ng, .string t] 24)
  have hI := IB.new w ng t
  by_cases ht : validB t = true
  rotate_left
  · have e1 : pwE s ng t v = 3 := by unfold pwE; rw [if_neg (fun h => ht h.1)]
    rw [pwS, e1, mo_bad (by decide)]
    have HV := Lib.hid (show validB t = false by simpa using ht)
    clear ht e1
    go_enter Tryz.func14, Tryz.ntmps14
    go_wp2_with fail
    refine (Valid_any t _).mono ?_; rw [HV.out]; rintro e w1 ⟨rfl, rfl⟩
    go_wp2_with fail
    go_ret2
    exact ⟨rfl, hb⟩
  by_cases he : (ng && t.toList.isEmpty) = false
  rotate_left
  · have e1 : pwE s ng t v = 3 := by unfold pwE; rw [if_neg (fun h => he h.2)]
    rw [pwS, e1, mo_bad (by decide)]
    have HV := Lib.hid ht
    have he2 : ng = true ∧ t.toList.isEmpty = true := by simpa using he
    obtain ⟨rfl, he3⟩ := he2
    have te : t.toList = [] := by simpa using he3
    clear ht e1 he
    go_enter Tryz.func14, Tryz.ntmps14
    go_wp2_with fail
    refine (Valid_any t _).mono ?_; rw [HV.out]; rintro e w1 ⟨rfl, rfl⟩
    go_wp2_with fail
    go_ret2
    exact ⟨rfl, hb⟩
  by_cases h0 : chk [s] [v] = 0
  rotate_left
  · have e1 : pwE s ng t v = chk [s] [v] := by unfold pwE; rw [if_pos ⟨ht, he⟩, ivE_bad h0]; simp
    rw [pwS, e1, mo_bad h0]
    have hk : chk [s] [v] = 3 ∨ chk [s] [v] = 11 := (chk_cases [s] [v]).resolve_left h0
    have HV := Lib.hid ht
    have hI2 := hI
    obtain ⟨w0, hw0⟩ : ∃ w0, w.alloc (.cells #[.bool ng, .string t] 24) = w0 := ⟨_, rfl⟩
    rw [hw0] at hI hb
    have hck := check11 w0 s v
    have c0 := hI.c0
    have c1 := hI.c1
    have hsz : w0.heap.size = w.heap.size + 1 := by rw [← hw0]; simp
    rw [hsz] at hck
    rcases hk with hk | hk
    all_goals
      rw [hk]
      rw [hk] at hck
      have HCK := Lib.hid hck
      clear h0 e1 ht hk hck hI2
      cases ng
      · go_enter Tryz.func14, Tryz.ntmps14
        go_wp2_with fail
        refine (Valid_any t _).mono ?_; rw [HV.out]; rintro e w1 ⟨rfl, rfl⟩
        go_wp2_with fail
        refine (HCK.out).mono ?_; rintro e w1 ⟨rfl, b1⟩
        go_wp2_with fail
        go_ret2
        exact ⟨rfl, hb.trans (b1.mono (by omega))⟩
      · have he2 : t.toList.isEmpty = false := by simpa using he
        have te : t.toList = [] → False := fun h => by rw [h] at he2; cases he2
        clear he
        go_enter Tryz.func14, Tryz.ntmps14
        go_wp2_with fail
        refine (Valid_any t _).mono ?_; rw [HV.out]; rintro e w1 ⟨rfl, rfl⟩
        go_wp2_with fail
        refine (HCK.out).mono ?_; rintro e w1 ⟨rfl, b1⟩
        go_wp2_with fail
        go_ret2
        exact ⟨rfl, hb.trans (b1.mono (by omega))⟩
  obtain ⟨hs, hv, hp⟩ := chk11_inv h0
  have hT := isN_of_valid ht
  obtain ⟨w0, hw0⟩ : ∃ w0, w.alloc (.cells #[.bool ng, .string t] 24) = w0 := ⟨_, rfl⟩
  rw [hw0] at hI hb
  have hck := check11 w0 s v
  have c0 := hI.c0
  have c1 := hI.c1
  have hsz : w0.heap.size = w.heap.size + 1 := by rw [← hw0]; simp
  rw [hsz, h0] at hck
  have HCK := Lib.hid hck
  have HV := Lib.hid ht
  cases ng
  · have e1 : pwE s false t v = 0 := by unfold pwE; rw [if_pos ⟨ht, he⟩]; simpa using h0
    have hr : pwS s false t v = enc (nv s ^ nv t % nv v) := by rw [pwS, e1, mo_zero]; simp
    rw [hr, e1]
    have HT := Lib.hid hT
    have HSS := Lib.hid hs
    have HVV := Lib.hid hv
    clear hr e1 hck ht hT hs hv h0
    go_enter Tryz.func14, Tryz.ntmps14
    go_wp2_with fail
    refine (Valid_any t _).mono ?_; rw [HV.out]; rintro e w1 ⟨rfl, rfl⟩
    go_wp2_with fail
    refine (HCK.out).mono ?_; rintro e w1 ⟨rfl, b1⟩
    have hI1 := hI.below b1 (by omega)
    replace hb := hb.trans (b1.mono (by omega))
    clear hw0 c0 c1 HCK b1 hI hsz
    have c0 := hI1.c0
    have c1 := hI1.c1
    go_wp2_with fail
    refine (Exp_any _ _ _ _ _ _ _ HSS.out HT.out HVV.out hp).mono ?_; rintro e w2 ⟨rfl, b2⟩
    replace hb := bbl hb b2
    go_wp2_with fail
    go_ret2
    exact ⟨rfl, hb⟩
  · have he2 : t.toList.isEmpty = false := by simpa using he
    have te : t.toList = [] → False := fun h => by rw [h] at he2; cases he2
    have e1 : pwE s true t v = ivE s v := by unfold pwE; rw [if_pos ⟨ht, he⟩]; simp
    by_cases hg : Nat.gcd (nv s) (nv v) = 1
    · have e2 : ivE s v = 0 := by unfold ivE; rw [if_pos h0, if_pos hg]
      have hr : pwS s true t v = enc (invm (nv s) (nv v) ^ nv t % nv v) := by rw [pwS, e1, e2, mo_zero]; simp
      rw [hr, e1, e2]
      have hin : IsN (enc (invm (nv s) (nv v))) (invm (nv s) (nv v)) := IsN.mk' (Nat.le_trans (blen_mono (Nat.le_of_lt (invm_ok hp hg).1)) hv.le)
      have HIN := Lib.hid hin
      have HT := Lib.hid hT
      have HSS := Lib.hid hs
      have HVV := Lib.hid hv
      have HGG := Lib.hid hg
      clear hr e1 e2 hck ht hT hs hv h0 hg hin he
      go_enter Tryz.func14, Tryz.ntmps14
      go_wp2_with fail
      refine (Valid_any t _).mono ?_; rw [HV.out]; rintro e w1 ⟨rfl, rfl⟩
      go_wp2_with fail
      refine (HCK.out).mono ?_; rintro e w1 ⟨rfl, b1⟩
      have hI1 := hI.below b1 (by omega)
      replace hb := hb.trans (b1.mono (by omega))
      clear hw0 c0 c1 HCK b1 hI hsz
      have c0 := hI1.c0
      have c1 := hI1.c1
      go_wp2_with fail
      refine (Inverse_yes _ _ _ _ _ HSS.out HVV.out hp HGG.out).mono ?_; rintro e w2 ⟨rfl, b2⟩
      replace hb := bbl hb b2
      have hI2 := hI1.below b2 hI1.lt
      clear hI1 b2 c0 c1
      have c0 := hI2.c0
      have c1 := hI2.c1
      go_wp2_with fail
      refine (Exp_any _ _ _ _ _ _ _ HIN.out HT.out HVV.out hp).mono ?_; rintro e w3 ⟨rfl, b3⟩
      replace hb := bbl hb b3
      go_wp2_with fail
      go_ret2
      exact ⟨rfl, hb⟩
    · have e2 : ivE s v = 9 := by unfold ivE; rw [if_pos h0, if_neg hg]
      rw [pwS, e1, e2, mo_bad (by decide)]
      have HT := Lib.hid hT
      have HSS := Lib.hid hs
      have HVV := Lib.hid hv
      have HGG := Lib.hid hg
      clear e1 e2 hck ht hT hs hv h0 hg he
      go_enter Tryz.func14, Tryz.ntmps14
      go_wp2_with fail
      refine (Valid_any t _).mono ?_; rw [HV.out]; rintro e w1 ⟨rfl, rfl⟩
      go_wp2_with fail
      refine (HCK.out).mono ?_; rintro e w1 ⟨rfl, b1⟩
      have hI1 := hI.below b1 (by omega)
      replace hb := hb.trans (b1.mono (by omega))
      clear hw0 c0 c1 HCK b1 hI hsz
      have c0 := hI1.c0
      have c1 := hI1.c1
      go_wp2_with fail
      refine (Inverse_no _ _ _ _ _ HSS.out HVV.out hp HGG.out).mono ?_; rintro e w2 ⟨rfl, b2⟩
      replace hb := bbl hb b2
      go_wp2_with fail
      go_ret2
      exact ⟨rfl, hb⟩
end Go.Proofs.YtoocpmmgoljncaaGreat
