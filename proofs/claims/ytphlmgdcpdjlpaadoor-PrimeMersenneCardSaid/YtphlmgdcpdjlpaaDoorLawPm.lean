/- dominolaw04: the walk of PrimeMersenne. -/
import Derived.Test.YtphlmgdcpdjlpaaDoorLawPr
import Derived.Test.YtphlmgdcpdjlpaaDoorMer
namespace Go.Proofs.YtphlmgdcpdjlpaaDoor
open Go.RowKit Num
set_option maxRecDepth 20000
set_option linter.unusedVariables false
theorem strongV_prime {p a : Nat} (h : IsP p) (h2 : 2 < p) (ho : p % 2 = 1) : strongV p a = true := by
  unfold strongV
  rw [if_neg (by omega), if_neg (by omega)]
  by_cases h0 : a % p = 0
  · rw [if_pos h0]
  · rw [if_neg h0]
    exact h.strong fun hd => h0 (Nat.mod_eq_zero_of_dvd hd)
def mers : List Nat := [2, 3, 5, 7, 13, 17, 19, 31, 61, 89, 107, 127]
/-- the bytes of a Mersenne number -/
def mst (k : Nat) : ByteArray := str (UInt8.ofNat (2 ^ (k % 8) - 1) :: List.replicate (k / 8) 255)
theorem mst_good (j : Nat) (hj : j < 12) : validB (mst (mers.getD j 0)) = true ∧ (∀ a, strongV (nv (mst (mers.getD j 0))) a = true) ∧ (mers.getD j 0) % 8 ≠ 0 ∧ 2 ≤ mers.getD j 0 ∧ mers.getD j 0 ≤ 127 := by
  have key : ∀ n, IsP n → 2 < n → n % 2 = 1 → ∀ k, validB (mst k) = true → nv (mst k) = n → k % 8 ≠ 0 → 2 ≤ k → k ≤ 127 → validB (mst k) = true ∧ (∀ a, strongV (nv (mst k)) a = true) ∧ k % 8 ≠ 0 ∧ 2 ≤ k ∧ k ≤ 127 :=
    fun n h1 h2 h3 k h4 h5 h6 h7 h8 => ⟨h4, fun a => by rw [h5]; exact strongV_prime h1 h2 h3, h6, h7, h8⟩
  rcases j with _ | _ | _ | _ | _ | _ | _ | _ | _ | _ | _ | _ | j
  · exact key _ isP3 (by decide) (by decide) 2 (by decide +kernel) (by decide +kernel) (by decide) (by decide) (by decide)
  · exact key _ isP7 (by decide) (by decide) 3 (by decide +kernel) (by decide +kernel) (by decide) (by decide) (by decide)
  · exact key _ isP31 (by decide) (by decide) 5 (by decide +kernel) (by decide +kernel) (by decide) (by decide) (by decide)
  · exact key _ isP127 (by decide) (by decide) 7 (by decide +kernel) (by decide +kernel) (by decide) (by decide) (by decide)
  · exact key _ isP8191 (by decide) (by decide) 13 (by decide +kernel) (by decide +kernel) (by decide) (by decide) (by decide)
  · exact key _ isP131071 (by decide) (by decide) 17 (by decide +kernel) (by decide +kernel) (by decide) (by decide) (by decide)
  · exact key _ isP524287 (by decide) (by decide) 19 (by decide +kernel) (by decide +kernel) (by decide) (by decide) (by decide)
  · exact key _ isM31 (by decide) (by decide) 31 (by decide +kernel) (by decide +kernel) (by decide) (by decide) (by decide)
  · exact key _ isM61 (by decide) (by decide) 61 (by decide +kernel) (by decide +kernel) (by decide) (by decide) (by decide)
  · exact key _ isM89 (by decide) (by decide) 89 (by decide +kernel) (by decide +kernel) (by decide) (by decide) (by decide)
  · exact key _ isM107 (by decide) (by decide) 107 (by decide +kernel) (by decide +kernel) (by decide) (by decide) (by decide)
  · exact key _ isM127 (by decide) (by decide) 127 (by decide +kernel) (by decide +kernel) (by decide) (by decide) (by decide)
  · omega
set_option maxHeartbeats 8000000 in
theorem mersenne_walk (x : Nat) (t : ByteArray) (w : World) (hx : x < 256) (hT : Tab w) :
    Calls Tryd.prog 6 #[.int .u8 (x : Int), .string t] w fun e w' => e = .returned (.bool true) ∧ Below w.heap.size w w' := by
  by_cases h : t.size ≤ 40
  · have d1 : decide ((40 : Int) < (t.size : Int)) = false := decide_eq_false (by omega)
    by_cases hv : validB t = true
    · obtain ⟨j, hj⟩ : ∃ j, x % 12 = j := ⟨_, rfl⟩
      have hj12 : j < 12 := by omega
      obtain ⟨g1, g2, g3, g4, g5⟩ := mst_good j hj12
      have HV := Lib.hid hv
      have HX : Hid ((x : Int) % 12 = (j : Int)) := by show _ = _; omega
      have HG := Lib.hid (And.intro g1 (g2 (nv t)))
      have hcell : [Value.int .i64 2, .int .i64 3, .int .i64 5, .int .i64 7, .int .i64 13, .int .i64 17, .int .i64 19, .int .i64 31, .int .i64 61, .int .i64 89, .int .i64 107, .int .i64 127][x % 12]? = some (.int .i64 ((mers.getD j 0 : Nat) : Int)) := by
        rw [hj]
        clear HX hj g1 g2 g3 g4 g5
        rcases j with _ | _ | _ | _ | _ | _ | _ | _ | _ | _ | _ | _ | j <;> first | rfl | omega
      generalize mers.getD j 0 = k at HG hcell g3 g4 g5
      clear g1 g2 hv hj
      have hz : ((UInt8.ofNat (2 ^ (k % 8) - 1)).toNat : Int) = ((2 : Int) ^ (k % 8) - 1) % 256 := by
        have hr : k % 8 < 8 := Nat.mod_lt _ (by omega)
        generalize k % 8 = r at hr
        rcases r with _ | _ | _ | _ | _ | _ | _ | _ | r <;> first | decide | omega
      have hcv := conv_one' (w.alloc (.cells #[.int .i64 2, .int .i64 3, .int .i64 5, .int .i64 7, .int .i64 13, .int .i64 17, .int .i64 19, .int .i64 31, .int .i64 61, .int .i64 89, .int .i64 107, .int .i64 127] 3)) _ _ hz
      simp only [World.size_alloc] at hcv
      have hpos : 0 < (k : Int) % 8 := by omega
      have hb1 : Below w.heap.size w ((w.alloc (.cells #[.int .i64 2, .int .i64 3, .int .i64 5, .int .i64 7, .int .i64 13, .int .i64 17, .int .i64 19, .int .i64 31, .int .i64 61, .int .i64 89, .int .i64 107, .int .i64 127] 3)).alloc (.cells #[.int .u8 (((2 : Int) ^ (k % 8) - 1) % 256)] 5)) :=
        ((Below.refl _ w).alloc (Nat.le_refl _) _).alloc (by simp) _
      clear hz
      go_enter Tryd.func6, Tryd.ntmps6
      go_wp2_with fail
      refine (refFormed_any _ _).mono ?_; rintro e w' ⟨rfl, rfl⟩
      rw [HV.out]
      go_wp2_with fail
      generalize World.alloc _ (.cells #[.int .u8 (((2 : Int) ^ (k % 8) - 1) % 256)] 5) = w2 at hb1 ⊢
      obtain ⟨kk, hkk⟩ : ∃ kk, k / 8 = kk := ⟨_, rfl⟩
      rw [show (k : Int) / 8 = (kk : Int) by omega]
      obtain ⟨c, hc⟩ : ∃ c, UInt8.ofNat (2 ^ (k % 8) - 1) = c := ⟨_, rfl⟩
      rw [hc]
      have HM : Hid (mst k = str (c :: List.replicate kk 255)) := by show _ = _; unfold mst; rw [hc, hkk]
      have HC : Hid (∀ q, str (c :: List.replicate q 255) ++ ⟨#[255]⟩ = str (c :: List.replicate (q + 1) 255)) := fun q => by
        rw [show (⟨#[255]⟩ : ByteArray) = str [255] from rfl, str_append, List.cons_append, List.replicate_succ']
      have hk16 : kk ≤ 15 := by omega
      clear hcv hcell hpos hc hkk
      go_loop [7, 39] (fun s i => ∃ q : Nat, q ≤ kk ∧ i = .int .i64 q ∧ s = .string (str (c :: List.replicate q 255))) (fun _ i => kk - (intOf i).toNat)
      case atStart => exact ⟨0, by omega, rfl, rfl⟩
      case round =>
        obtain ⟨q, hq, rfl, rfl⟩ := hrel
        have hcq := HC.out q
        have hsz : (str (c :: List.replicate q 255)).size = q + 1 := by rw [size_str]; simp
        by_cases hlt : q < kk
        · go_wp2_with fail
          exact ⟨⟨q + 1, by omega, by go_num, rfl⟩, by simp [intOf]; omega⟩
        · obtain rfl : q = kk := by omega
          rw [← HM.out]
          clear hcq hsz
          go_wp2_with fail
          refine (prStrong_any _ _ _).mono ?_
          rintro e w3 ⟨rfl, b3⟩
          have e1 : ssB (mst k) t = true := by unfold ssB; rw [HG.out.1, HV.out, HG.out.2]; rfl
          have e2 : ssE (mst k) t = 0 := by unfold ssE; rw [if_pos ⟨HG.out.1, HV.out⟩]
          rw [e1, e2]
          replace b3 := hb1.trans (b3.mono hb1.size)
          have hT3 := hT.below b3
          go_wp2_with fail
          refine (awakeP _ hT3).mono ?_
          rintro e w4 ⟨rfl, b4⟩
          go_wp2_with fail
          go_ret
          exact ⟨rfl, b3.trans (b4.mono b3.size)⟩
    · have hv' : validB t = false := by simpa using hv
      go_enter Tryd.func6, Tryd.ntmps6
      go_wp2_with fail
      refine (refFormed_any _ _).mono ?_; rintro e w' ⟨rfl, rfl⟩
      rw [hv']
      go_wp2_with fail
      refine (awakeP _ hT).mono ?_
      rintro e w1 ⟨rfl, b1⟩
      go_wp2_with fail
      go_ret
      exact ⟨rfl, b1⟩
  · have d1 : decide ((40 : Int) < (t.size : Int)) = true := decide_eq_true (by omega)
    go_enter Tryd.func6, Tryd.ntmps6
    go_wp2_with fail
    refine (awakeP _ hT).mono ?_
    rintro e w1 ⟨rfl, b1⟩
    go_wp2_with fail
    go_ret
    exact ⟨rfl, b1⟩
theorem mersenne_walkI (x : Int) (t : ByteArray) (w : World) (hx : (Lit.int .u8 x).wf = true) (hT : Tab w) :
    Calls Tryd.prog 6 #[.int .u8 x, .string t] w fun e w' => e = .returned (.bool true) ∧ Below w.heap.size w w' := by
  have h : 0 ≤ x ∧ x ≤ 255 := by simpa [Lit.wf, show IntKind.u8.min = 0 from rfl, show IntKind.u8.max = 255 from rfl] using hx
  obtain ⟨n, rfl⟩ : ∃ n : Nat, x = (n : Int) := ⟨x.toNat, by omega⟩
  exact mersenne_walk n t w (by omega) hT
end Go.Proofs.YtphlmgdcpdjlpaaDoor
