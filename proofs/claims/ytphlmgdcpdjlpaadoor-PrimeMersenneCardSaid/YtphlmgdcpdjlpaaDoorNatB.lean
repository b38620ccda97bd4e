/- Contracts of the package natural: Add, Sub. -/
import Derived.Test.YtphlmgdcpdjlpaaDoorNatA
import Derived.Test.YtphlmgdcpdjlpaaDoorArr
import Derived.Lib.MinMax
namespace Go.Proofs.YtphlmgdcpdjlpaaDoor
set_option maxRecDepth 20000
open Go.RowKit Num

theorem info_u8 : (Tryd.prog.info? 5).map (fun i => (i.zero, i.size, i.bytes)) = some (some (.int .u8 0), 1, 1) := by kernel_rfl
theorem info_int : (Tryd.prog.info? 3).map (fun i => (i.zero, i.size, i.bytes)) = some (some (.int .i64 0), 1, 8) := by kernel_rfl


/-- the first k digits of n are written into a row of N bytes -/
def Filled (N n k : Nat) (f : Nat → Int) : Prop := ∀ j, j < N → f j = if N - 1 - j < k then dg n (N - 1 - j) else 0
theorem Filled.zero (N n : Nat) : Filled N n 0 (fun _ => 0) := fun j _ => by simp
theorem Filled.step {N n k : Nat} {f : Nat → Int} (h : Filled N n k f) (hk : k < N) {i : Nat} (hi : i = N - 1 - k) {v : Int} (hv : v = dg n k) : Filled N n (k + 1) (upd f i v) := by
  intro j hj
  by_cases e : j = i
  · rw [e, upd_same, if_pos (by omega), hv]; congr 1; omega
  · rw [upd_other _ _ e, h j hj]
    by_cases e2 : N - 1 - j < k
    · rw [if_pos e2, if_pos (by omega)]
    · rw [if_neg e2, if_neg (by omega)]
theorem Filled.done {N n : Nat} {f : Nat → Int} (h : Filled N n N f) : ∀ j, j < N → f j = dg n (N - 1 - j) := fun j hj => by rw [h j hj, if_pos (by omega)]

/-- the carry into digit i of a sum -/
def car (a b i : Nat) : Int := ((a + b) / 256 ^ i : Nat) - (a / 256 ^ i : Nat) - (b / 256 ^ i : Nat)
theorem car_zero (a b : Nat) : car a b 0 = 0 := by simp [car]; omega
theorem car_step (a b i : Nat) : (car a b i + (dg a i + dg b i)) % 256 = dg (a + b) i ∧ (car a b i + (dg a i + dg b i)) / 256 = car a b (i + 1) := by
  unfold car dg
  rw [Nat.pow_succ, ← Nat.div_div_eq_div_mul, ← Nat.div_div_eq_div_mul, ← Nat.div_div_eq_div_mul]
  generalize (a + b) / 256 ^ i = S; generalize a / 256 ^ i = A; generalize b / 256 ^ i = C
  omega
theorem car_bound (a b i : Nat) : 0 ≤ car a b i ∧ car a b i ≤ 1 := by
  unfold car
  have hp : 0 < 256 ^ i := Nat.pow_pos (by omega)
  have h1 := Nat.div_add_mod a (256 ^ i)
  have h2 := Nat.div_add_mod b (256 ^ i)
  have h3 := Nat.mod_lt a hp
  have h4 := Nat.mod_lt b hp
  have h5 : a / 256 ^ i + b / 256 ^ i ≤ (a + b) / 256 ^ i := by
    rw [Nat.le_div_iff_mul_le hp, Nat.mul_comm, Nat.mul_add]; omega
  have h6 : (a + b) / 256 ^ i < a / 256 ^ i + b / 256 ^ i + 2 := by
    rw [Nat.div_lt_iff_lt_mul hp, Nat.mul_comm, Nat.mul_add, Nat.mul_add]; omega
  omega

theorem nvL_digits (l : List UInt8) (n : Nat) (hn : n < 256 ^ l.length) (h : ∀ j (hj : j < l.length), (l[j].toNat : Int) = dg n (l.length - 1 - j)) : nvL l = n := by
  have e : l = bytesL l.length n := by
    apply List.ext_getElem
    · rw [length_bytesL]
    · intro j h1 h2
      have := h j h1
      simp only [bytesL, List.getElem_map, List.getElem_range]
      apply UInt8.toNat_inj.1
      rw [UInt8.toNat_ofNat']
      unfold dg at this
      omega
  have := nvL_bytesL l.length n
  rw [← e, Nat.mod_eq_of_lt hn] at this
  exact this
theorem trimmed_arr' (w : World) (b N n : Nat) (f : Nat → Int) (T : TypeId) (ha : Arr w b T .u8 N f) (hN : N ≤ 1000000) (hf : ∀ j, j < N → f j = dg n (N - 1 - j)) (hn : n < 256 ^ N) :
    Calls Tryd.prog 48 #[.slice (some ⟨b, 0, none⟩) N N] w fun e w' => e = .returned (.string (enc n)) ∧ w = w' := by
  have hl := length_bytesL N n
  have hb : BytesAt w b 0 (bytesL N n) := by
    intro j hj
    rw [hl] at hj
    rw [Nat.zero_add, ha.cell hj, hf j hj]
    simp [bytesL, dg]
  have := trimmed_any b 0 N (bytesL N n) w (by omega) (by omega) hb
  rw [hl, nvL_bytesL, Nat.mod_eq_of_lt hn] at this
  exact this
theorem trimmed_arr (w : World) (b N n : Nat) (f : Nat → Int) (ha : Arr w b 5 .u8 N f) (hN : N ≤ 1000000) (hf : ∀ j, j < N → f j = dg n (N - 1 - j)) (hn : n < 256 ^ N) :
    Calls Tryd.prog 48 #[.slice (some ⟨b, 0, none⟩) N N] w fun e w' => e = .returned (.string (enc n)) ∧ w = w' :=
  trimmed_arr' w b N n f _ ha hN hf hn


end Go.Proofs.YtphlmgdcpdjlpaaDoor
