/- Rows of bytes that a call owns: what stands in them, and their capacity. -/
import Derived.Test.YtdlbnioidfhhcaaGreatArr
import Derived.Test.YtdlbnioidfhhcaaGreatNatA
import Derived.OwnWalk
import Derived.Lib.BufferWrite
namespace Go.Proofs.YtdlbnioidfhhcaaGreat
open Go.RowKit Num
open Go.Lib (byteCells byteCells_length byteCells_append)

/-- block b is a row of c bytes, of which the first are l -/
def Own (w : World) (b : Nat) (l : List UInt8) (c : Nat) : Prop :=
  ∃ cur : Array Value, w.heap[b]? = some (.cells cur 5 (0, 0)) ∧ cur.size = c ∧ l.length ≤ c ∧ c ≤ maxLen ∧ cur.toList.take l.length = byteCells l
section
variable {w : World} {b c : Nat} {l : List UInt8}
theorem Own.row (h : Own w b l c) : w.ownsRow b 5 1 (.slice (some ⟨b, 0, none⟩) l.length c) l.length (byteCells l) := by
  obtain ⟨cur, h1, h2, h3, h4, h5⟩ := h
  exact ⟨by rw [byteCells_length]; omega, .inr ⟨b, c, cur, rfl, Nat.le_refl _, h1, h3, h4, by omega, by rw [Nat.mul_one]; exact h5⟩⟩
theorem Own.of (h : w.ownsRow b 5 1 (.slice (some ⟨b, 0, none⟩) l.length c) l.length (byteCells l)) : Own w b l c := by
  rcases h.2 with ⟨h, _⟩ | ⟨g, cap, cur, h0, _, h1, h3, h4, h2, h5⟩
  · cases h
  · injection h0 with h6 h7 h8
    injection h6 with h9
    injection h9 with h10
    subst h10; subst h8
    exact ⟨cur, h1, by omega, h3, h4, by rw [Nat.mul_one] at h5; exact h5⟩
theorem Own.lt (h : Own w b l c) : b < w.heap.size := by
  obtain ⟨cur, h1, _⟩ := h
  exact (Array.getElem?_eq_some_iff.1 h1).1
theorem Own.cap (h : Own w b l c) : l.length ≤ c := by obtain ⟨cur, _, _, h, _⟩ := h; exact h
theorem Own.keep {w' : World} (h : Own w b l c) (e : w'.heap[b]? = w.heap[b]?) : Own w' b l c := by
  obtain ⟨cur, h1, h2⟩ := h
  exact ⟨cur, by rw [e]; exact h1, h2⟩
theorem Own.below {w' : World} {B : Nat} (h : Own w b l c) (hb : Below B w w') (hB : b < B) : Own w' b l c := h.keep (hb.block b hB)
theorem Own.alloc (h : Own w b l c) (o : Obj) : Own (w.alloc o) b l c := h.keep (Below.heap_alloc _ _ _ h.lt)
theorem Own.drew (h : Own w b l c) : Own w.drew b l c := h
theorem Own.get (h : Own w b l c) (j : Nat) (hj : j < l.length) : w.cell? ⟨b, j, none⟩ = some (.int .u8 (l[j].toNat : Int)) := by
  rw [h.row.cellAt j (by omega)]
  simp [byteCells, hj]
end
/-- make([]byte, n, c) -/
theorem wpList_make_cap {P : Program} (w : World) {ops : Array Oper} {rest : List Oper} {o : Oper} {a : Act} {Q : Exit → Act → World → Prop}
    (hg : o.guard = none) (l c : Operand) (t : TypeId) (hop : o.op = Op.makeSlice t l c)
    (e : TypeId) (i : TypeInfo) (k : IntKind) (bytes : Nat) (h1 : P.underlying t = some (.slice e)) (h2 : P.info? e = some i) (h3 : i.zero = some (.int k 0)) (h4 : i.size = 1) (h5 : i.bytes = bytes)
    (kl kc : IntKind) (L C : Int) (n m : Nat) (hl : a.eval l = .int kl L) (hc : a.eval c = .int kc C) (hL : L = (n : Int)) (hC : C = (m : Int)) (hnm : n ≤ m) (b2 : bytes * m ≤ 281474976710656) (b3 : m ≤ maxLen)
    (hK : ∀ w', Arr w' w.heap.size e k m (fun _ => 0) → Below w.heap.size w w' → w.heap.size < w'.heap.size → wpList P ops Q rest (a.put o.dst (.slice (some ⟨w.heap.size, 0, none⟩) n m)) w') :
    wpList P ops Q (o :: rest) a w := by
  refine wpList_plain hg fun K hK' => ?_
  subst hL
  subst hC
  subst h5
  have hrun := run_make (P := P) w t e i (.int k 0) h1 h2 h3 kl kc n m (by omega) (by omega) (by rw [← Int.natCast_mul]; omega) (by unfold maxLen at b3; omega)
  rw [h4, Nat.mul_one, show (Value.int k 0).cells = #[Value.int k 0] from rfl, madeCells_int] at hrun
  simp only [Int.toNat_natCast] at hrun
  unfold Oper.wp
  simp [execOp, hop, hl, hc, hrun, Result.andThen]
  exact hK' _ _ (hK _ (Arr.new _ _ _ _ _) ((Below.refl _ _).alloc (Nat.le_refl _) _) (by simp))
/-- copy(row, s): the row begins with the bytes of s -/
theorem wpList_copy_own_string {P : Program} {w : World} {ops : Array Oper} {rest : List Oper} {o : Oper} {a : Act} {Q : Exit → Act → World → Prop} (hgd : o.guard = none) (x y : Operand) (t t' : TypeId)
    (ho : o.op = .call { callee := .builtin .copy, args := #[x, y], argTypes := #[t, t'] }) (b n c : Nat) (s : ByteArray) (f : Nat → Int)
    (hx : a.eval x = .slice (some ⟨b, 0, none⟩) n c) (hy : a.eval y = .string s) (ha : Arr w b 5 .u8 c f) (hn : s.size = n) (hc : n ≤ c) (hm : c ≤ maxLen)
    (hu : P.underlying t = some (.slice 5)) (he : (P.info? 5).map (·.size) = some 1)
    (hK : ∀ w', Own w' b s.data.toList c → (∀ B, B ≤ b → Below B w w') → wpList P ops Q rest (a.put o.dst (goInt s.size)) w') : wpList P ops Q (o :: rest) a w := by
  refine wpList_plain hgd fun K hK' => ?_
  have hr := Go.Lib.run_copy_row_string (P := P) w t t' o.type 5 b 0 n c s (icells .u8 c f) 5 hu he ha (by omega) (by rw [size_icells]; omega)
  have hl : (byteCells s.data.toList).length = s.size := by rw [byteCells_length, ← Go.Lib.size_eq]
  have hl2 : s.data.toList.length = s.size := (Go.Lib.size_eq s).symm
  unfold Oper.wp execOp
  simp only [ho, resolve, invoke, builtin, Sem.run_bind, Sem.run_pure, Result.andThen_ok, List.map_toArray, List.map_cons, List.map_nil, hx, hy, hr]
  refine hK' _ _ (hK _ ⟨_, setRow_heap _ _ _ _ _ _ ha, ?_, by omega, hm, ?_⟩ (fun B hB => setRow_below hB))
  · simp [hl, size_icells]; omega
  · simp only [List.take_zero, List.nil_append]
    rw [List.take_append_of_le_length (by omega), List.take_of_length_le (by omega)]
/-- append(row, y..): there is room -/
theorem wpList_append_own1 {P : Program} (w : World) {ops : Array Oper} {rest : List Oper} {o : Oper} {a : Act} {Q : Exit → Act → World → Prop}
    (hg : o.guard = none) (s x : Operand) (t : TypeId) (hop : o.op = Op.call { callee := Callee.builtin Builtin.append, args := #[s, x], argTypes := #[t, t] })
    (i : TypeInfo) (h1 : P.underlying t = some (.slice 5)) (h2 : P.info? 5 = some i) (h4 : i.size = 1)
    (b n c : Nat) (l : List UInt8) (hs : a.eval s = .slice (some ⟨b, 0, none⟩) n c) (hn : n = l.length) (hown : Own w b l c) (ad : Addr) (m c' : Nat) (y : List UInt8) (hm : m = y.length) (hx : a.eval x = .slice (some ad) m c')
    (hc : ∀ j u, (byteCells y)[j]? = some u → w.cell? (ad.add j) = some u) (b1 : l.length + y.length ≤ c)
    (hK : ∀ w', Own w' b (l ++ y) c → (∀ B, B ≤ b → Below B w w') → wpList P ops Q rest (a.put o.dst (.slice (some ⟨b, 0, none⟩) (n + m) c)) w') :
    wpList P ops Q (o :: rest) a w := by
  subst hn
  subst hm
  refine wpList_append_fits w hg s x t hop b 5 i 1 h1 h2 h4 b l.length c (byteCells l) hs hown.row ad y.length c' (byteCells y) hx (by rw [byteCells_length]; omega) hc (Go.Lib.byteCells_one _) b1 ?_
  intro w' h hg'
  refine hK w' (Own.of ?_) (fun B hB => (Below.refl B w).grown hg' (by have := hown.lt; omega) (fun k e => by cases e; exact hB))
  rw [byteCells_append, List.length_append]
  exact h
/-- the bytes of a number's eight places -/
def byw (x : Int) : UInt8 := UInt8.ofNat (x % 256).toNat
theorem byw_cell (x : Int) : ((byw x).toNat : Int) = x % 256 := by
  unfold byw
  rw [UInt8.toNat_ofNat']
  omega
theorem cells_one {W : World} {g : Nat} {z : Int} {y : UInt8} (h : W.cell? ⟨g, 0, none⟩ = some (.int .u8 z)) (hz : (y.toNat : Int) = z) : ∀ j u, (byteCells [y])[j]? = some u → W.cell? ((⟨g, 0, none⟩ : Addr).add j) = some u := by
  intro j u hu
  cases j with
  | zero =>
    simp [byteCells] at hu
    subst hu
    rw [show (⟨g, 0, none⟩ : Addr).add 0 = ⟨g, 0, none⟩ from rfl, hz]; exact h
  | succ j => simp [byteCells] at hu
theorem cells_four {W : World} {g : Nat} {z0 z1 z2 z3 : Int} {y0 y1 y2 y3 : UInt8} (h0 : W.cell? ⟨g, 0, none⟩ = some (.int .u8 z0)) (h1 : W.cell? ⟨g, 1, none⟩ = some (.int .u8 z1)) (h2 : W.cell? ⟨g, 2, none⟩ = some (.int .u8 z2)) (h3 : W.cell? ⟨g, 3, none⟩ = some (.int .u8 z3))
    (e0 : (y0.toNat : Int) = z0) (e1 : (y1.toNat : Int) = z1) (e2 : (y2.toNat : Int) = z2) (e3 : (y3.toNat : Int) = z3) : ∀ j u, (byteCells [y0, y1, y2, y3])[j]? = some u → W.cell? ((⟨g, 0, none⟩ : Addr).add j) = some u := by
  intro j u hu
  rcases j with _ | _ | _ | _ | j
  · simp [byteCells] at hu; subst hu; rw [show (⟨g, 0, none⟩ : Addr).add 0 = ⟨g, 0, none⟩ from rfl, e0]; exact h0
  · simp [byteCells] at hu; subst hu; rw [show (⟨g, 0, none⟩ : Addr).add 1 = ⟨g, 1, none⟩ from rfl, e1]; exact h1
  · simp [byteCells] at hu; subst hu; rw [show (⟨g, 0, none⟩ : Addr).add 2 = ⟨g, 2, none⟩ from rfl, e2]; exact h2
  · simp [byteCells] at hu; subst hu; rw [show (⟨g, 0, none⟩ : Addr).add 3 = ⟨g, 3, none⟩ from rfl, e3]; exact h3
  · simp [byteCells] at hu
theorem new_cell0 (w : World) (cs : Array Value) (t : TypeId) (j : Nat) : (w.alloc (.cells cs t)).cell? ⟨w.heap.size, j, none⟩ = cs[j]? := by
  unfold World.cell?
  rw [show (w.alloc (.cells cs t)).heap[(⟨w.heap.size, j, none⟩ : Addr).block]? = _ from heap_alloc_new w _]
  simp
/-- a string of bytes -/
def str (l : List UInt8) : ByteArray := ⟨l.toArray⟩
theorem size_str (l : List UInt8) : (str l).size = l.length := by simp [str, ByteArray.size]
theorem str_data (s : ByteArray) : str s.data.toList = s := by simp [str]
theorem data_str (l : List UInt8) : (str l).data.toList = l := by simp [str]
theorem str_append (l r : List UInt8) : str l ++ str r = str (l ++ r) := by
  apply ByteArray.ext
  simp [str]
/-- the first k bytes of a number's eight -/
theorem bytesL_take (n k : Nat) (h : k < 8) : (bytesL 8 n).take (k + 1) = (bytesL 8 n).take k ++ [UInt8.ofNat (n / 256 ^ (7 - k))] := by
  rw [List.take_succ_eq_append_getElem (by rw [length_bytesL]; exact h)]
  congr 2
  simp [bytesL]
end Go.Proofs.YtdlbnioidfhhcaaGreat
