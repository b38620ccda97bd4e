/- Plain facts on numbers and their big-endian bytes: the value of bytes, canonical bytes of a number, digits, sums of digits. No program in sight. -/
import Derived.WalkKit
namespace Go.Proofs.YtdlbnioidfhhcaaGreat.Num

/-- the number of big-endian bytes -/
def nvL (l : List UInt8) : Nat := l.foldl (fun n b => n * 256 + b.toNat) 0
def nv (s : ByteArray) : Nat := nvL s.data.toList
/-- how many bytes a number has -/
def blen (n : Nat) : Nat := if n = 0 then 0 else n.log2 / 8 + 1
/-- the k last bytes of a number, the greatest first -/
def bytesL (k n : Nat) : List UInt8 := (List.range k).map fun i => UInt8.ofNat (n / 256 ^ (k - 1 - i))
def encL (n : Nat) : List UInt8 := bytesL (blen n) n
/-- the canonical string of a number -/
def enc (n : Nat) : ByteArray := ⟨(encL n).toArray⟩

theorem foldl_from (l : List UInt8) : ∀ (a : Nat), l.foldl (fun n b => n * 256 + b.toNat) a = a * 256 ^ l.length + nvL l := by
  induction l with
  | nil => intro a; simp [nvL]
  | cons b l ih =>
    intro a
    simp only [List.foldl_cons, List.length_cons, nvL]
    rw [ih, ih (0 * 256 + b.toNat)]
    rw [Nat.pow_succ, Nat.add_mul, Nat.zero_mul, Nat.zero_add, Nat.mul_assoc, Nat.mul_comm 256, Nat.add_assoc]

theorem nvL_cons (b : UInt8) (l : List UInt8) : nvL (b :: l) = b.toNat * 256 ^ l.length + nvL l := by
  have := foldl_from l (0 * 256 + b.toNat)
  simp only [nvL, List.foldl_cons]
  rw [this]; simp [nvL]

theorem nvL_nil : nvL [] = 0 := rfl

theorem nvL_append (l r : List UInt8) : nvL (l ++ r) = nvL l * 256 ^ r.length + nvL r := by
  unfold nvL; rw [List.foldl_append]; exact foldl_from r _

theorem nvL_lt (l : List UInt8) : nvL l < 256 ^ l.length := by
  induction l with
  | nil => simp [nvL]
  | cons b l ih =>
    rw [nvL_cons, List.length_cons, Nat.pow_succ]
    have hb : b.toNat < 256 := b.toNat_lt
    have : b.toNat * 256 ^ l.length ≤ 255 * 256 ^ l.length := Nat.mul_le_mul_right _ (by omega)
    omega

theorem nv_lt (s : ByteArray) : nv s < 256 ^ s.size := by
  have := nvL_lt s.data.toList
  simpa [nv] using this

/-- a digit of a list -/
theorem nvL_digit (l : List UInt8) : ∀ (i : Nat) (h : i < l.length), (l[l.length - 1 - i]'(by omega)).toNat = nvL l / 256 ^ i % 256 := by
  induction l with
  | nil => intro i h; simp at h
  | cons b l ih =>
    intro i h
    rw [nvL_cons]
    by_cases hi : i = l.length
    · subst hi
      have hlt := nvL_lt l
      have hb : b.toNat < 256 := b.toNat_lt
      have hp : 0 < 256 ^ l.length := Nat.pow_pos (by omega)
      simp only [List.length_cons, Nat.add_sub_cancel, Nat.sub_self, List.getElem_cons_zero]
      rw [Nat.mul_comm, Nat.mul_add_div hp, Nat.div_eq_of_lt hlt, Nat.add_zero, Nat.mod_eq_of_lt hb]
    · simp only [List.length_cons] at h
      have h' : i < l.length := by omega
      have e : (b :: l).length - 1 - i = (l.length - 1 - i) + 1 := by simp; omega
      have g : (b :: l)[(b :: l).length - 1 - i]'(by simp; omega) = l[l.length - 1 - i]'(by omega) := by
        simp only [e, List.getElem_cons_succ]
      rw [g, ih i h']
      have hp : 0 < 256 ^ i := Nat.pow_pos (by omega)
      have e2 : 256 ^ l.length = 256 ^ i * (256 ^ (l.length - i - 1) * 256) := by
        rw [← Nat.pow_succ, ← Nat.pow_add]; congr 1; omega
      rw [e2, ← Nat.mul_assoc, Nat.mul_comm b.toNat, Nat.mul_assoc, Nat.mul_add_div hp, ← Nat.mul_assoc]
      omega

theorem nv_digit (s : ByteArray) (i : Nat) (h : i < s.size) : (s[s.size - 1 - i]'(by omega)).toNat = nv s / 256 ^ i % 256 := by
  have := nvL_digit s.data.toList i (by simpa using h)
  simp only [Array.length_toList] at this
  exact this

theorem nv_digit_past (s : ByteArray) (i : Nat) (h : s.size ≤ i) : nv s / 256 ^ i % 256 = 0 := by
  have h1 := nv_lt s
  have h2 : 256 ^ s.size ≤ 256 ^ i := Nat.pow_le_pow_right (by omega) h
  rw [Nat.div_eq_of_lt (by omega)]

/- blen -/
theorem blen_zero : blen 0 = 0 := rfl
theorem lt_blen (n : Nat) : n < 256 ^ blen n := by
  unfold blen
  split
  · subst_vars; simp
  · rename_i h
    have := Nat.lt_log2_self (n := n)
    have e : (256 : Nat) = 2 ^ 8 := rfl
    rw [e, ← Nat.pow_mul]
    exact Nat.lt_of_lt_of_le this (Nat.pow_le_pow_right (by omega) (by omega))
theorem pow_le_of_blen (n k : Nat) (h : k < blen n) : 256 ^ k ≤ n := by
  unfold blen at h
  split at h
  · omega
  · rename_i h0
    have := Nat.log2_self_le h0
    have e : (256 : Nat) = 2 ^ 8 := rfl
    rw [e, ← Nat.pow_mul]
    exact Nat.le_trans (Nat.pow_le_pow_right (by omega) (by omega)) this
theorem blen_le_iff (n k : Nat) : blen n ≤ k ↔ n < 256 ^ k := by
  constructor
  · intro h; exact Nat.lt_of_lt_of_le (lt_blen n) (Nat.pow_le_pow_right (by omega) h)
  · intro h
    rcases Nat.lt_or_ge k (blen n) with h' | h'
    · have := pow_le_of_blen n k h'; omega
    · exact h'
theorem blen_mono {a b : Nat} (h : a ≤ b) : blen a ≤ blen b := by
  rw [blen_le_iff]; exact Nat.lt_of_le_of_lt h (lt_blen b)
theorem blen_eq_zero (n : Nat) : blen n = 0 ↔ n = 0 := by
  have := blen_le_iff n 0; simp at this; omega

theorem length_bytesL (k n : Nat) : (bytesL k n).length = k := by simp [bytesL]
theorem bytesL_zero (n : Nat) : bytesL 0 n = [] := rfl
theorem bytesL_succ (k n : Nat) : bytesL (k + 1) n = bytesL k (n / 256) ++ [UInt8.ofNat n] := by
  unfold bytesL
  rw [List.range_succ, List.map_append]
  congr 1
  · apply List.map_congr_left
    intro i hi
    have hi := List.mem_range.1 hi
    congr 1
    have e : k + 1 - 1 - i = (k - 1 - i) + 1 := by omega
    rw [e, Nat.pow_succ, Nat.mul_comm, ← Nat.div_div_eq_div_mul]
  · simp
theorem nvL_bytesL (k : Nat) : ∀ n, nvL (bytesL k n) = n % 256 ^ k := by
  induction k with
  | zero => intro n; simp [bytesL_zero, nvL, Nat.mod_one]
  | succ k ih =>
    intro n
    rw [bytesL_succ, nvL_append, ih]
    have e1 : nvL [UInt8.ofNat n] = n % 256 := by simp [nvL]
    rw [e1, Nat.pow_succ, Nat.mul_comm (256 ^ k) 256, Nat.mod_mul]
    simp only [List.length_singleton, Nat.pow_one]
    omega
theorem nvL_encL (n : Nat) : nvL (encL n) = n := by
  unfold encL; rw [nvL_bytesL, Nat.mod_eq_of_lt (lt_blen n)]
theorem length_encL (n : Nat) : (encL n).length = blen n := length_bytesL _ _
theorem nv_enc (n : Nat) : nv (enc n) = n := by simp [nv, enc, nvL_encL]
theorem size_enc (n : Nat) : (enc n).size = blen n := by simp [enc, ByteArray.size, length_encL]

/-- a list of bytes is the fixed-width bytes of its number -/
theorem bytesL_nvL (l : List UInt8) : bytesL l.length (nvL l) = l := by
  apply List.ext_getElem
  · rw [length_bytesL]
  · intro i h1 h2
    have h3 := nvL_digit l (l.length - 1 - i) (by omega)
    have e : l.length - 1 - (l.length - 1 - i) = i := by omega
    simp only [e] at h3
    simp only [bytesL, List.getElem_map, List.getElem_range]
    apply UInt8.toNat_inj.1
    rw [h3, UInt8.toNat_ofNat']
theorem nvL_inj {l r : List UInt8} (hl : l.length = r.length) (h : nvL l = nvL r) : l = r := by
  rw [← bytesL_nvL l, ← bytesL_nvL r, hl, h]

theorem blen_nvL (l : List UInt8) (h : l.head? ≠ some 0) : blen (nvL l) = l.length := by
  cases l with
  | nil => rfl
  | cons b l =>
    simp at h
    have hb : b.toNat ≠ 0 := fun e => h (UInt8.toNat_inj.1 (by simpa using e))
    have h1 : blen (nvL (b :: l)) ≤ (b :: l).length := (blen_le_iff _ _).2 (nvL_lt _)
    have h2 : ¬ blen (nvL (b :: l)) ≤ l.length := by
      rw [blen_le_iff, nvL_cons]
      have : 1 * 256 ^ l.length ≤ b.toNat * 256 ^ l.length := Nat.mul_le_mul_right _ (by omega)
      omega
    simp at h1 ⊢; omega
theorem encL_nvL (l : List UInt8) (h : l.head? ≠ some 0) : encL (nvL l) = l := by
  unfold encL; rw [blen_nvL l h]; exact bytesL_nvL l
theorem encL_head (n : Nat) : (encL n).head? ≠ some 0 := by
  intro h
  have h1 := length_encL n
  have h2 := nvL_encL n
  cases hl : encL n with
  | nil => rw [hl] at h; simp at h
  | cons b l =>
    rw [hl] at h h1 h2
    simp at h; subst h
    rw [nvL_cons] at h2; simp at h2
    have := nvL_lt l
    rw [h2, ← blen_le_iff] at this
    simp at h1; omega
theorem encL_trim (l : List UInt8) : encL (nvL l) = l.dropWhile (· == 0) := by
  induction l with
  | nil => rfl
  | cons b l ih =>
    by_cases hb : b = 0
    · subst hb; rw [nvL_cons]; simp [ih]
    · rw [encL_nvL _ (by simp [hb])]
      simp [hb]
theorem enc_inj {a b : Nat} (h : enc a = enc b) : a = b := by rw [← nv_enc a, ← nv_enc b, h]
theorem enc_eq_iff (a b : Nat) : enc a = enc b ↔ a = b := ⟨enc_inj, fun h => by rw [h]⟩

/-- canonical strings -/
def Canon (s : ByteArray) : Prop := s.data.toList.head? ≠ some 0
instance (s : ByteArray) : Decidable (Canon s) := by unfold Canon; infer_instance
theorem canon_enc (n : Nat) : Canon (enc n) := by simpa [Canon, enc] using encL_head n
theorem enc_nv {s : ByteArray} (h : Canon s) : enc (nv s) = s := by
  unfold enc nv; rw [encL_nvL _ h]
theorem canon_iff (s : ByteArray) : Canon s ↔ ∃ n, s = enc n := ⟨fun h => ⟨_, (enc_nv h).symm⟩, fun ⟨n, e⟩ => e ▸ canon_enc n⟩

/-- bytes compared as numbers -/
theorem nvL_lt_of_lt {a b : UInt8} {l r : List UInt8} (hl : l.length = r.length) (h : a.toNat < b.toNat) : nvL (a :: l) < nvL (b :: r) := by
  rw [nvL_cons, nvL_cons, hl]
  have h1 := nvL_lt l
  rw [hl] at h1
  have : (a.toNat + 1) * 256 ^ r.length ≤ b.toNat * 256 ^ r.length := Nat.mul_le_mul_right _ h
  rw [Nat.add_mul] at this
  omega
theorem nvL_cons_lt_iff (a : UInt8) {l r : List UInt8} (hl : l.length = r.length) : nvL (a :: l) < nvL (a :: r) ↔ nvL l < nvL r := by
  rw [nvL_cons, nvL_cons, hl]; omega


/-- the number of n digits of f from lo on, the least significant one first -/
def ds (B : Int) (f : Nat → Int) (lo : Nat) : Nat → Int
  | 0 => 0
  | n + 1 => ds B f lo n + f (lo + n) * B ^ n

/-- a function turned at one place -/
def upd (f : Nat → Int) (i : Nat) (v : Int) : Nat → Int := fun k => if k = i then v else f k
theorem upd_same (f : Nat → Int) (i : Nat) (v : Int) : upd f i v i = v := by simp [upd]
theorem upd_other (f : Nat → Int) {i k : Nat} (v : Int) (h : k ≠ i) : upd f i v k = f k := by simp [upd, h]

theorem ds_congr {B : Int} {f g : Nat → Int} {lo lo' : Nat} : ∀ {n : Nat}, (∀ k, k < n → f (lo + k) = g (lo' + k)) → ds B f lo n = ds B g lo' n
  | 0, _ => rfl
  | n + 1, h => by
    simp only [ds]
    rw [ds_congr (n := n) (fun k hk => h k (by omega)), h n (by omega)]

theorem ds_succ (B : Int) (f : Nat → Int) (lo n : Nat) : ds B f lo (n + 1) = ds B f lo n + f (lo + n) * B ^ n := rfl

theorem ds_add (B : Int) (f : Nat → Int) (lo m : Nat) : ∀ n, ds B f lo (m + n) = ds B f lo m + B ^ m * ds B f (lo + m) n
  | 0 => by simp [ds]
  | n + 1 => by
    rw [← Nat.add_assoc, ds_succ, ds_add B f lo m n, ds_succ, Nat.add_assoc lo m n, Int.pow_add]
    have e : B ^ m * (ds B f (lo + m) n + f (lo + (m + n)) * B ^ n) = B ^ m * ds B f (lo + m) n + f (lo + (m + n)) * (B ^ m * B ^ n) := by
      rw [Int.mul_add]; congr 1; simp only [Int.mul_left_comm]
    rw [e, Int.add_assoc]

theorem ds_head (B : Int) (f : Nat → Int) (lo n : Nat) : ds B f lo (n + 1) = f lo + B * ds B f (lo + 1) n := by
  have := ds_add B f lo 1 n
  rw [Nat.add_comm 1 n] at this
  rw [this]; simp [ds, Int.pow_succ]

theorem ds_upd_out (B : Int) (f : Nat → Int) (lo n i : Nat) (v : Int) (h : i < lo ∨ lo + n ≤ i) : ds B (upd f i v) lo n = ds B f lo n :=
  ds_congr fun k hk => upd_other f v (by omega)

theorem ds_bound {B : Int} (hB : 1 ≤ B) {f : Nat → Int} {lo : Nat} : ∀ {n : Nat}, (∀ k, k < n → 0 ≤ f (lo + k) ∧ f (lo + k) < B) → 0 ≤ ds B f lo n ∧ ds B f lo n < B ^ n
  | 0, _ => by simp [ds]
  | n + 1, h => by
    have ih := ds_bound hB (n := n) (f := f) (lo := lo) (fun k hk => h k (by omega))
    have hn := h n (by omega)
    rw [ds_succ, Int.pow_succ]
    have hp : 0 ≤ B ^ n := by omega
    have h1 : 0 ≤ f (lo + n) * B ^ n := Int.mul_nonneg hn.1 hp
    have h2 : f (lo + n) * B ^ n ≤ (B - 1) * B ^ n := Int.mul_le_mul_of_nonneg_right (by omega) hp
    rw [Int.sub_mul, Int.one_mul, Int.mul_comm B] at h2
    omega

theorem ds_nonneg {B : Int} (hB : 0 ≤ B) {f : Nat → Int} {lo : Nat} : ∀ {n : Nat}, (∀ k, k < n → 0 ≤ f (lo + k)) → 0 ≤ ds B f lo n
  | 0, _ => by simp [ds]
  | n + 1, h => by
    have ih := ds_nonneg hB (n := n) (f := f) (lo := lo) (fun k hk => h k (by omega))
    have hn := h n (by omega)
    have hp : 0 ≤ B ^ n := Int.pow_nonneg hB
    rw [ds_succ]
    have := Int.mul_nonneg hn hp
    omega

theorem ds_zero {B : Int} {f : Nat → Int} {lo : Nat} : ∀ {n : Nat}, (∀ k, k < n → f (lo + k) = 0) → ds B f lo n = 0
  | 0, _ => rfl
  | n + 1, h => by rw [ds_succ, ds_zero (fun k hk => h k (by omega)), h n (by omega)]; simp

/-- the digits of a number -/
theorem ds_digits (b : Nat) (hb : 0 < b) (a : Nat) : ∀ n, ds b (fun i => ((a / b ^ i % b : Nat) : Int)) 0 n = ((a % b ^ n : Nat) : Int)
  | 0 => by simp [ds, Nat.mod_one]
  | n + 1 => by
    rw [ds_succ, ds_digits b hb a n, Nat.zero_add, Nat.mod_pow_succ]
    simp only [Int.natCast_add, Int.natCast_mul, Int.natCast_pow]
    rw [Int.mul_comm (b ^ n : Int)]

theorem pow_pos_int {B : Int} (h : 0 < B) (n : Nat) : 0 < B ^ n := Int.pow_pos h

/-- a digit of a number, as the walk has it -/
def dg (n i : Nat) : Int := ((n / 256 ^ i % 256 : Nat) : Int)
theorem dg_nonneg (n i : Nat) : 0 ≤ dg n i := by unfold dg; omega
theorem dg_lt (n i : Nat) : dg n i < 256 := by unfold dg; omega
theorem dg_le (n i : Nat) : dg n i ≤ 255 := by have := dg_lt n i; omega
theorem ds_upd_in (B : Int) (f : Nat → Int) (lo i : Nat) (v : Int) : ∀ n, i < n → ds B (upd f (lo + i) v) lo n = ds B f lo n + (v - f (lo + i)) * B ^ i
  | 0, h => by omega
  | n + 1, h => by
    rw [ds_succ, ds_succ]
    by_cases e : i = n
    · subst e
      rw [upd_same, ds_upd_out _ _ _ _ _ _ (by omega), Int.sub_mul]; omega
    · rw [upd_other _ _ (by omega), ds_upd_in B f lo i v n (by omega)]; omega
/-- one step of carrying the columns of a product -/
theorem col_step (f : Nat → Int) (n N i : Nat) (hn : (n : Int) = ds 256 f 0 N) (hi : i < N) :
    (ds 256 f 0 i / 256 ^ i + f i) % 256 = dg n i ∧ (ds 256 f 0 i / 256 ^ i + f i) / 256 = ds 256 f 0 (i + 1) / 256 ^ (i + 1) := by
  have hp : (256 : Int) ^ i ≠ 0 := Int.ne_of_gt (Int.pow_pos (by omega))
  have e1 : ds 256 f 0 (i + 1) / 256 ^ i = ds 256 f 0 i / 256 ^ i + f i := by
    rw [ds_succ, Nat.zero_add, Int.add_mul_ediv_right _ _ hp]
  have e2 : ds 256 f 0 (i + 1) / 256 ^ (i + 1) = (ds 256 f 0 i / 256 ^ i + f i) / 256 := by
    rw [Int.pow_succ, ← Int.ediv_ediv_of_nonneg (Int.pow_nonneg (by omega)), e1]
  refine ⟨?_, e2.symm⟩
  have e3 : ds 256 f 0 N = ds 256 f 0 (i + 1) + 256 ^ i * 256 * ds 256 f (0 + (i + 1)) (N - (i + 1)) := by
    rw [← Int.pow_succ, ← ds_add]; congr 1; omega
  have e4 : ((n / 256 ^ i : Nat) : Int) = ds 256 f 0 i / 256 ^ i + f i + 256 * ds 256 f (0 + (i + 1)) (N - (i + 1)) := by
    rw [Int.natCast_ediv, hn, e3, Int.natCast_pow, Int.mul_assoc, show ((256 : Nat) : Int) = 256 from rfl, Int.add_mul_ediv_left _ _ hp]
    rw [← e1]
  unfold dg
  rw [Int.natCast_emod, e4]
  simp [Int.add_mul_emod_self_left]
/-- the carry behind the first i columns -/
def colc (f : Nat → Int) (i : Nat) : Int := ds 256 f 0 i / 256 ^ i
theorem colc_zero (f : Nat → Int) : colc f 0 = 0 := by simp [colc, ds]
theorem colc_step (f : Nat → Int) (n N i : Nat) (hn : (n : Int) = ds 256 f 0 N) (hi : i < N) :
    (colc f i + f i) % 256 = dg n i ∧ (colc f i + f i) / 256 = colc f (i + 1) := col_step f n N i hn hi
end Go.Proofs.YtdlbnioidfhhcaaGreat.Num
