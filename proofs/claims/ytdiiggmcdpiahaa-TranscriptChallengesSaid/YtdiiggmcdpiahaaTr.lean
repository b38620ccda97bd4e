/- transcript: New, Add, Nats, Ints return hashes of frames. -/
import Derived.Test.YtdiiggmcdpiahaaFrmN
import Derived.Test.YtdiiggmcdpiahaaFrmI
namespace Go.Proofs.Ytdiiggmcdpiahaa
open Go.RowKit Num
set_option maxRecDepth 20000

theorem Strs.lit (w : World) (L : List (List UInt8)) (cs : Array Value) (h : cs = (svals L).toArray) : Strs (w.alloc (.cells cs 9)) (.slice (some ⟨w.heap.size, 0, none⟩) L.length L.length) L := by
  subst h
  refine .inr ⟨w.heap.size, L.length, _, (0, 0), rfl, Nat.le_refl _, heap_alloc_new w _, fun j hj => ?_⟩
  simp [svals, hj]
theorem plain_any (c : UInt8) (z : Int) (ao : Option Addr) (cm : Nat) (L : List (List UInt8)) (w : World) (hz : (c.toNat : Int) = z) (hm : MoreS w ao L) (hs : (flat L).length ≤ 800000) :
    Calls Try.prog 30 #[.int .u8 z, .slice ao L.length cm] w fun e w' => e = .returned (.string (sha (frm c L))) ∧ Below w.heap.size w w' := by
  go_enter Try.func30, Try.ntmps30
  go_wp2_with fail
  refine (framedS_any c z _ ao cm [] L _ hz (Strs.nil _) hm (by rw [List.nil_append]; exact hs)).mono ?_
  rw [List.nil_append]
  rintro e w1 ⟨rfl, hb⟩
  go_wp2_with fail
  go_ret
  exact ⟨rfl, hb⟩
theorem TrNew_any (l : List UInt8) (w : World) (hs : l.length ≤ 100000) :
    Calls Try.prog 16 #[.string (str l)] w fun e w' => e = .returned (.string (sha (frm 78 [l]))) ∧ Below w.heap.size w w' := by
  obtain ⟨ao, c, h1, h2⟩ := (Strs.lit w [l] #[.string (str l)] rfl).more
  injection h1 with h1 _ h3
  subst h1
  go_enter Try.func16, Try.ntmps16
  go_wp2_with fail
  refine (plain_any 78 _ _ 1 [l] _ rfl h2 (by rw [flat_one]; simp [length_bytesL]; omega)).mono ?_
  rintro e w1 ⟨rfl, hb⟩
  go_wp2_with fail
  go_ret
  exact ⟨rfl, (blw_alloc _ _).trans (hb.mono (by simp))⟩
theorem flat_two (a b : List UInt8) : (flat [a, b]).length = 16 + a.length + b.length := by simp [flat, length_bytesL]; omega
theorem flat_three (a b c : List UInt8) : (flat [a, b, c]).length = 24 + a.length + b.length + c.length := by simp [flat, length_bytesL]; omega
theorem TrAdd_any (a b c : List UInt8) (w : World) (ha : a.length ≤ 100000) (hb : b.length ≤ 100000) (hc : c.length ≤ 100000) :
    Calls Try.prog 18 #[.string (str a), .string (str b), .string (str c)] w fun e w' => e = .returned (.string (sha (frm 65 [a, b, c]))) ∧ Below w.heap.size w w' := by
  obtain ⟨ao, c', h1, h2⟩ := (Strs.lit w [a, b, c] #[.string (str a), .string (str b), .string (str c)] rfl).more
  injection h1 with h1 _ h3
  subst h1
  go_enter Try.func18, Try.ntmps18
  go_wp2_with fail
  refine (plain_any 65 _ _ 3 [a, b, c] _ rfl h2 (by rw [flat_three]; omega)).mono ?_
  rintro e w1 ⟨rfl, hb⟩
  go_wp2_with fail
  go_ret
  exact ⟨rfl, (blw_alloc _ _).trans (hb.mono (by simp))⟩
theorem TrNats_any (a b : List UInt8) (ao : Option Addr) (cm : Nat) (L : List (List UInt8)) (w : World) (hm : MoreS w ao L) (hs : (flat ([a, b] ++ L)).length ≤ 800000) :
    Calls Try.prog 20 #[.string (str a), .string (str b), .slice ao L.length cm] w fun e w' => e = .returned (.string (sha (frm 76 ([a, b] ++ L)))) ∧ Below w.heap.size w w' := by
  have h2 := Strs.lit w [a, b] #[.string (str a), .string (str b)] rfl
  have h3 := hm.below (blw_alloc w (.cells #[.string (str a), .string (str b)] 9)) (Nat.le_refl _)
  go_enter Try.func20, Try.ntmps20
  go_wp2_with fail
  refine (framedN_any 76 _ _ ao cm [a, b] L _ rfl h2 h3 hs).mono ?_
  rintro e w1 ⟨rfl, hb⟩
  go_wp2_with fail
  go_ret
  exact ⟨rfl, (blw_alloc _ _).trans (hb.mono (by simp))⟩
theorem TrInts_any (a b : List UInt8) (ao : Option Addr) (cm : Nat) (L : List (Bool × List UInt8)) (w : World) (hm : MoreI w ao L) (hs : (flat ([a, b] ++ L.map itx)).length ≤ 800000) :
    Calls Try.prog 24 #[.string (str a), .string (str b), .slice ao L.length cm] w fun e w' => e = .returned (.string (sha (frm 73 ([a, b] ++ L.map itx)))) ∧ Below w.heap.size w w' := by
  have h2 := Strs.lit w [a, b] #[.string (str a), .string (str b)] rfl
  have h3 := hm.below (blw_alloc w (.cells #[.string (str a), .string (str b)] 9)) (Nat.le_refl _)
  go_enter Try.func24, Try.ntmps24
  go_wp2_with fail
  refine (framedI_any 73 _ _ ao cm [a, b] L _ rfl h2 h3 hs).mono ?_
  rintro e w1 ⟨rfl, hb⟩
  go_wp2_with fail
  go_ret
  exact ⟨rfl, (blw_alloc _ _).trans (hb.mono (by simp))⟩
end Go.Proofs.Ytdiiggmcdpiahaa
