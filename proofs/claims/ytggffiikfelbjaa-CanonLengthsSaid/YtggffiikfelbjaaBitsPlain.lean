/- Bits, plainly: a byte text and a number of bits as a list of Bools; right ones; two right ones of the same bits are one. No program in sight. -/
import Derived.Test.YtggffiikfelbjaaBase
namespace Go.Proofs.Ytggffiikfelbjaa
open Go.RowKit

/-- Byte k of a text, as a number; behind its end 0. -/
def byt (s : ByteArray) (k : Nat) : Nat := if h : k < s.size then (s[k]'h).toNat else 0
theorem byt_of (s : ByteArray) {k : Nat} (h : k < s.size) : (s[k]'h).toNat = byt s k := by unfold byt; rw [dif_pos h]
theorem byt_lt (s : ByteArray) (k : Nat) : byt s k < 256 := by
  unfold byt; split
  · exact UInt8.toNat_lt _
  · omega
theorem byt_ext {s t : ByteArray} (hs : s.size = t.size) (h : ∀ k, k < s.size → byt s k = byt t k) : s = t := by
  apply ByteArray.ext
  apply Array.ext
  · exact hs
  · intro i h1 h2
    have := h i h1
    rw [← byt_of s h1, ← byt_of t h2] at this
    exact UInt8.toNat_inj.1 this

/-- Bit i of a text. -/
def bitAt (s : ByteArray) (i : Nat) : Bool := byt s (i / 8) / 2 ^ (7 - i % 8) % 2 == 1
/-- The first n bits. -/
def bitsL (s : ByteArray) (n : Nat) : List Bool := (List.range n).map (bitAt s)
@[simp] theorem bitsL_length (s : ByteArray) (n : Nat) : (bitsL s n).length = n := by simp [bitsL]
theorem bitsL_get (s : ByteArray) {n i : Nat} (h : i < n) : (bitsL s n)[i]? = some (bitAt s i) := by simp [bitsL, h]
theorem bitsL_take (s : ByteArray) {n k : Nat} (h : k ≤ n) : (bitsL s n).take k = bitsL s k := by
  simp [bitsL, ← List.map_take, List.take_range, Nat.min_eq_left h]

/-- A number's lowest w bits, the highest first. -/
def natBits (v : Nat) : Nat → List Bool
  | 0 => []
  | w + 1 => (v / 2 ^ w % 2 == 1) :: natBits v w
@[simp] theorem natBits_length (v w : Nat) : (natBits v w).length = w := by induction w <;> simp [natBits, *]
theorem natBits_append (v a b : Nat) : natBits v (a + b) = natBits (v / 2 ^ b) a ++ natBits v b := by
  induction a with
  | zero => simp [natBits]
  | succ a ih =>
    rw [show a + 1 + b = (a + b) + 1 by omega, natBits, natBits, ih, List.cons_append, Nat.div_div_eq_div_mul, ← Nat.pow_add, Nat.add_comm b a]
theorem natBits_mod (v w m : Nat) (h : w ≤ m) : natBits (v % 2 ^ m) w = natBits v w := by
  induction w with
  | zero => rfl
  | succ w ih =>
    have e : (v % 2 ^ m / 2 ^ w % 2 == 1) = (v / 2 ^ w % 2 == 1) := by
      have h1 := Nat.testBit_mod_two_pow v m w
      rw [Nat.testBit_eq_decide_div_mod_eq, Nat.testBit_eq_decide_div_mod_eq, decide_eq_true (show w < m by omega), Bool.true_and] at h1
      rw [Bool.eq_iff_iff]; simpa using h1
    rw [natBits, natBits, e, ih (by omega)]
theorem natBits_join (x y a b : Nat) (hy : y < 2 ^ b) : natBits (x * 2 ^ b + y) (a + b) = natBits x a ++ natBits y b := by
  rw [natBits_append]
  congr 1
  · rw [Nat.mul_comm, Nat.mul_add_div (Nat.two_pow_pos b), Nat.div_eq_of_lt hy, Nat.add_zero]
  · rw [← natBits_mod (x * 2 ^ b + y) b b (Nat.le_refl b), Nat.mul_comm, Nat.mul_add_mod, Nat.mod_eq_of_lt hy]
theorem natBits_get (v w i : Nat) (h : i < w) : (natBits v w)[i]? = some (v / 2 ^ (w - 1 - i) % 2 == 1) := by
  induction w generalizing i with
  | zero => omega
  | succ w ih =>
    cases i with
    | zero => simp [natBits]
    | succ i => simp only [natBits, List.getElem?_cons_succ]; rw [ih i (by omega)]; congr 5; omega
theorem natBits_inj {v x w : Nat} (hv : v < 2 ^ w) (hx : x < 2 ^ w) (h : natBits v w = natBits x w) : v = x := by
  induction w generalizing v x with
  | zero => simp at hv hx; omega
  | succ w ih =>
    simp only [natBits, List.cons.injEq] at h
    have h1 := ih (v := v % 2 ^ w) (x := x % 2 ^ w) (Nat.mod_lt _ (Nat.two_pow_pos w)) (Nat.mod_lt _ (Nat.two_pow_pos w)) (by rw [natBits_mod _ _ _ (Nat.le_refl w), natBits_mod _ _ _ (Nat.le_refl w)]; exact h.2)
    have e1 : v / 2 ^ w < 2 := by rw [Nat.div_lt_iff_lt_mul (Nat.two_pow_pos w)]; rw [Nat.pow_succ] at hv; omega
    have e2 : x / 2 ^ w < 2 := by rw [Nat.div_lt_iff_lt_mul (Nat.two_pow_pos w)]; rw [Nat.pow_succ] at hx; omega
    have dv := Nat.div_add_mod v (2 ^ w)
    have dx := Nat.div_add_mod x (2 ^ w)
    generalize v / 2 ^ w = qv at *
    generalize x / 2 ^ w = qx at *
    have h2 : qv = qx := by
      have := h.1
      rw [Nat.mod_eq_of_lt e1, Nat.mod_eq_of_lt e2] at this
      rcases Nat.lt_or_ge qv 1 with a | a <;> rcases Nat.lt_or_ge qx 1 with b | b
      · omega
      · rw [show qv = 0 by omega, show qx = 1 by omega] at this; simp at this
      · rw [show qv = 1 by omega, show qx = 0 by omega] at this; simp at this
      · omega
    rw [← dv, ← dx, h1, h2]

/-- A byte's bits. -/
theorem bits_byte (s : ByteArray) (k : Nat) : natBits (byt s k) 8 = (List.range 8).map fun j => bitAt s (8 * k + j) := by
  apply List.ext_getElem?
  intro i
  by_cases h : i < 8
  · rw [natBits_get _ _ _ h]
    simp only [List.getElem?_map, List.getElem?_range h, Option.map_some, bitAt]
    rw [show (8 * k + i) / 8 = k by omega, show (8 * k + i) % 8 = i by omega]
  · rw [List.getElem?_eq_none (by simp; omega), List.getElem?_eq_none (by simp; omega)]

/-- Right bits: a number in bounds, just the bytes that it takes, and 0 behind the last bit. -/
def rightB (s : ByteArray) (n : Int) : Bool :=
  decide (0 ≤ n ∧ n ≤ 1048576 ∧ (s.size : Int) = (n + 7) / 8) && (decide (n % 8 = 0) || decide (byt s (s.size - 1) * 2 ^ (n % 8).toNat % 256 = 0))
/-- What a check answers. -/
def chkB (s : ByteArray) (n : Int) : Int := if rightB s n then 0 else 2

theorem rightB_n {s : ByteArray} {n : Int} (h : rightB s n = true) : 0 ≤ n ∧ n ≤ 1048576 ∧ (s.size : Int) = (n + 7) / 8 := by
  simp only [rightB, Bool.and_eq_true, decide_eq_true_eq] at h; exact h.1
theorem low_zero {x r : Nat} (_hx : x < 256) (hr : 0 < r) (hr8 : r < 8) : x * 2 ^ r % 256 = 0 ↔ ∀ j, r ≤ j → j < 8 → x / 2 ^ (7 - j) % 2 = 0 := by
  have : r = 1 ∨ r = 2 ∨ r = 3 ∨ r = 4 ∨ r = 5 ∨ r = 6 ∨ r = 7 := by omega
  constructor
  · intro h j h1 h2
    have hj : j = 1 ∨ j = 2 ∨ j = 3 ∨ j = 4 ∨ j = 5 ∨ j = 6 ∨ j = 7 := by omega
    rcases this with rfl | rfl | rfl | rfl | rfl | rfl | rfl <;> rcases hj with rfl | rfl | rfl | rfl | rfl | rfl | rfl <;> simp at * <;> omega
  · intro h
    have h1 := h 1; have h2 := h 2; have h3 := h 3; have h4 := h 4; have h5 := h 5; have h6 := h 6; have h7 := h 7
    rcases this with rfl | rfl | rfl | rfl | rfl | rfl | rfl <;> simp at * <;> omega
/-- The bits behind the last one are 0. -/
theorem rightB_iff {s : ByteArray} {n : Nat} (hn : n ≤ 1048576) (hs : s.size = (n + 7) / 8) : rightB s n = true ↔ ∀ i, n ≤ i → i < 8 * s.size → bitAt s i = false := by
  have h0 : (0 ≤ (n : Int) ∧ (n : Int) ≤ 1048576 ∧ (s.size : Int) = ((n : Int) + 7) / 8) := ⟨by omega, by omega, by omega⟩
  unfold rightB
  rw [decide_eq_true h0, Bool.true_and, Bool.or_eq_true, decide_eq_true_eq, decide_eq_true_eq]
  by_cases hz : n % 8 = 0
  · constructor
    · intro _ i h1 h2; omega
    · intro _; left; omega
  · have e8 : ((n : Int) % 8).toNat = n % 8 := by omega
    rw [e8, low_zero (byt_lt _ _) (by omega) (by omega)]
    constructor
    · rintro (h | h) i h1 h2
      · omega
      · have := h (i % 8) (by omega) (by omega)
        unfold bitAt
        rw [show i / 8 = s.size - 1 by omega, this]; rfl
    · intro h; right
      intro j h1 h2
      have := h (8 * (s.size - 1) + j) (by omega) (by omega)
      unfold bitAt at this
      rw [show (8 * (s.size - 1) + j) / 8 = s.size - 1 by omega, show (8 * (s.size - 1) + j) % 8 = j by omega] at this
      simp at this
      omega

/-- A text and a number that are the bits l. -/
def Bs (s : ByteArray) (n : Int) (l : List Bool) : Prop := rightB s n = true ∧ n = l.length ∧ bitsL s l.length = l
theorem Bs.of_right {s : ByteArray} {n : Nat} (h : rightB s n = true) : Bs s n (bitsL s n) := ⟨h, by simp, by simp⟩
theorem Bs.len {s : ByteArray} {n : Int} {l : List Bool} (h : Bs s n l) : l.length ≤ 1048576 ∧ s.size = (l.length + 7) / 8 := by
  have := rightB_n h.1
  have := h.2.1
  omega
/-- Two right ones of the same bits are one. -/
theorem Bs.one {s t : ByteArray} {n m : Int} {l : List Bool} (h : Bs s n l) (k : Bs t m l) : s = t ∧ n = m := by
  refine ⟨?_, by rw [h.2.1, k.2.1]⟩
  have h1 := h.len; have k1 := k.len
  have hr := (rightB_iff h1.1 h1.2).1 (by rw [← h.2.1]; exact h.1)
  have kr := (rightB_iff k1.1 k1.2).1 (by rw [← k.2.1]; exact k.1)
  refine byt_ext (by omega) fun j hj => ?_
  refine natBits_inj (w := 8) (byt_lt _ _) (byt_lt _ _) ?_
  rw [bits_byte, bits_byte]
  apply List.map_congr_left
  intro i hi
  have hi : i < 8 := by simpa using hi
  by_cases hl : 8 * j + i < l.length
  · have e1 := bitsL_get s hl
    have e2 := bitsL_get t hl
    rw [h.2.2] at e1; rw [k.2.2] at e2
    rw [e1] at e2; simpa using e2
  · rw [hr _ (by omega) (by omega), kr _ (by omega) (by omega)]
/-- From the bits: each is l's, and behind them there is 0. -/
theorem Bs.mk {s : ByteArray} {l : List Bool} (hl : l.length ≤ 1048576) (hs : s.size = (l.length + 7) / 8) (h : ∀ i, i < 8 * s.size → bitAt s i = l.getD i false) : Bs s l.length l := by
  refine ⟨(rightB_iff hl hs).2 fun i h1 h2 => ?_, rfl, ?_⟩
  · rw [h i h2]; simp [h1]
  · apply List.ext_getElem?
    intro i
    by_cases hi : i < l.length
    · rw [bitsL_get s hi, h i (by omega)]; simp [hi]
    · rw [List.getElem?_eq_none (by simp; omega), List.getElem?_eq_none (by omega)]

/-- The number of the k bits from a place on. -/
def getN (s : ByteArray) (p : Nat) : Nat → Nat
  | 0 => 0
  | k + 1 => 2 * getN s p k + (bitAt s (p + k)).toNat
theorem getN_lt (s : ByteArray) (p k : Nat) : getN s p k < 2 ^ k := by
  induction k with
  | zero => simp [getN]
  | succ k ih => rw [getN, Nat.pow_succ]; have := Bool.toNat_lt (bitAt s (p + k)); omega
theorem getN_add (s : ByteArray) (p k v : Nat) : getN s p (k + v) = getN s p k * 2 ^ v + getN s (p + k) v := by
  induction v with
  | zero => simp [getN]
  | succ v ih =>
    rw [← Nat.add_assoc, getN, ih, getN, Nat.pow_succ, Nat.add_assoc p k v]
    generalize (bitAt s (p + (k + v))).toNat = b
    generalize getN s (p + k) v = g
    generalize getN s p k = h
    rw [Nat.mul_add, ← Nat.mul_assoc, Nat.mul_comm 2 h, Nat.mul_assoc h 2, Nat.mul_comm 2 (2 ^ v)]
    omega
theorem div_mod_step (x d v : Nat) : 2 * (x / 2 ^ (d + 1) % 2 ^ v) + x / 2 ^ d % 2 = x / 2 ^ d % 2 ^ (v + 1) := by
  rw [Nat.pow_succ 2 d, ← Nat.div_div_eq_div_mul, Nat.pow_succ, Nat.mul_comm (2 ^ v) 2, Nat.mod_mul]
  omega
theorem getN_byte (s : ByteArray) (p v : Nat) (h : p % 8 + v ≤ 8) : getN s p v = byt s (p / 8) / 2 ^ (8 - p % 8 - v) % 2 ^ v := by
  induction v with
  | zero => simp [getN, Nat.mod_one]
  | succ v ih =>
    rw [getN, ih (by omega), ← div_mod_step, show 8 - p % 8 - v = 8 - p % 8 - (v + 1) + 1 by omega]
    congr 1
    unfold bitAt
    rw [show (p + v) / 8 = p / 8 by omega, show 7 - (p + v) % 8 = 8 - p % 8 - (v + 1) by omega]
    generalize byt s (p / 8) / 2 ^ (8 - p % 8 - (v + 1)) = y
    rcases Nat.mod_two_eq_zero_or_one y with e | e <;> rw [e] <;> rfl
theorem natBits_getN (s : ByteArray) (p k : Nat) : natBits (getN s p k) k = (List.range k).map fun j => bitAt s (p + j) := by
  induction k with
  | zero => rfl
  | succ k ih =>
    rw [natBits_append (getN s p (k + 1)) k 1, List.range_succ, List.map_append, getN]
    have hb := Bool.toNat_lt (bitAt s (p + k))
    rw [show (2 * getN s p k + (bitAt s (p + k)).toNat) / 2 ^ 1 = getN s p k by omega, ih]
    congr 1
    simp only [natBits, List.map_cons, List.map_nil]
    cases bitAt s (p + k) <;> simp
theorem bits_seg (s : ByteArray) {n p k : Nat} (h : p + k ≤ n) : ((bitsL s n).drop p).take k = (List.range k).map fun j => bitAt s (p + j) := by
  apply List.ext_getElem?
  intro i
  by_cases hi : i < k
  · rw [List.getElem?_take_of_lt hi, List.getElem?_drop, bitsL_get s (by omega)]; simp [hi]
  · rw [List.getElem?_eq_none (by simp; omega), List.getElem?_eq_none (by simp; omega)]

theorem u64n (n : Nat) (h : n ≤ 18446744073709551615) : IntKind.u64.wrap (n : Int) = (n : Int) := IntWalk.u64_in _ ⟨by omega, by omega⟩
theorem mask_nat (x v : Nat) (hx : x < 18446744073709551616) (hv : v ≤ 62) : bits .and .u64 (x : Int) (IntKind.u64.wrap (IntKind.u64.wrap (2 ^ v) - 1)) = ((x % 2 ^ v : Nat) : Int) := by
  have h2 : 2 ^ v ≤ 2 ^ 62 := Nat.pow_le_pow_right (by omega) hv
  have hp : 0 < 2 ^ v := Nat.two_pow_pos v
  have e : (2 : Int) ^ v = ((2 ^ v : Nat) : Int) := by rw [Int.natCast_pow]; rfl
  rw [e, u64n (2 ^ v) (by omega), show ((2 ^ v : Nat) : Int) - 1 = ((2 ^ v - 1 : Nat) : Int) by omega, u64n (2 ^ v - 1) (by omega),
    u64_and_nat _ _ hx (by omega), Nat.and_two_pow_sub_one_eq_mod]
theorem shl_or (n q v : Nat) (hq : q < 2 ^ v) (hn : n * 2 ^ v + q < 18446744073709551616) : bits .or .u64 (IntKind.u64.wrap ((n : Int) * 2 ^ v)) (q : Int) = ((n * 2 ^ v + q : Nat) : Int) := by
  have e : (n : Int) * (2 : Int) ^ v = ((n * 2 ^ v : Nat) : Int) := by rw [Int.natCast_mul, Int.natCast_pow]; rfl
  rw [e, IntWalk.u64_in _ ⟨by omega, by omega⟩, u64_or_nat _ _ (by omega) (by omega), nat_join v _ _ (Nat.mul_mod_left _ _) hq]
/-- A step of reading a number: some bits of a byte put behind. -/
theorem get_step (n b sh v : Nat) (hb : b < 256) (hv : v ≤ 8) (hn : n * 2 ^ v + 2 ^ v ≤ 18446744073709551616) :
    bits .or .u64 (IntKind.u64.wrap ((n : Int) * 2 ^ v)) (bits .and .u64 (IntKind.u64.wrap (b : Int) / 2 ^ sh) (IntKind.u64.wrap (IntKind.u64.wrap (2 ^ v) - 1))) = ((n * 2 ^ v + b / 2 ^ sh % 2 ^ v : Nat) : Int) := by
  have e : IntKind.u64.wrap (b : Int) / 2 ^ sh = ((b / 2 ^ sh : Nat) : Int) := by
    rw [IntWalk.u64_in _ ⟨by omega, by omega⟩, Int.natCast_ediv, Int.natCast_pow]; rfl
  have hm := Nat.mod_lt (b / 2 ^ sh) (Nat.two_pow_pos v)
  have hd := Nat.div_le_self b (2 ^ sh)
  rw [e, mask_nat _ _ (by omega) (by omega), shl_or _ _ _ hm (by omega)]

/-- A list of bytes as a text, and as values. -/
def strOf (l : List Nat) : ByteArray := ⟨(l.map UInt8.ofNat).toArray⟩
def vby (l : List Nat) : List Value := l.map fun b => .int .u8 (b : Nat)
@[simp] theorem vby_length (l : List Nat) : (vby l).length = l.length := by simp [vby]
theorem strOf_size (l : List Nat) : (strOf l).size = l.length := by simp [strOf, ByteArray.size]
theorem strOf_byt (l : List Nat) (h : ∀ b ∈ l, b < 256) (k : Nat) : byt (strOf l) k = l.getD k 0 := by
  by_cases hk : k < l.length
  · rw [← byt_of _ (by rw [strOf_size]; exact hk)]
    have : (strOf l)[k]'(by rw [strOf_size]; exact hk) = UInt8.ofNat l[k] := by
      show (strOf l).data[k]'_ = _
      simp [strOf]
    rw [this]
    simp [hk]
    exact h _ (List.getElem_mem hk)
  · unfold byt; rw [dif_neg (by rw [strOf_size]; exact hk)]; simp [List.getD, List.getElem?_eq_none (Nat.le_of_not_lt hk)]
/-- Bytes that lie in memory, made a text. -/
theorem run_conv (P : Program) (w : World) (src e : TypeId) (hs : P.underlying src = some (.slice e)) (he : P.underlying e = some (.int .u8)) (dst : TypeId) (hd : P.underlying dst = some .string)
    {B : Nat} {A : Option Addr} {l : List Nat} (h : Rd w B A (vby l)) (c : Nat) : (convert src dst (.slice A l.length c)).run P w = .ok (.string (strOf l)) w := by
  cases A with
  | none =>
    have hl : l = [] := by
      cases l with
      | nil => rfl
      | cons x l => obtain ⟨b, o, hA, _⟩ := h 0 (.int .u8 (x : Nat)) (by simp [vby]); cases hA
    subst hl
    exact run_convert_bytes_nil w src e hs he _ c dst hd
  | some ad =>
    have hload : (loadCells ad l.length).run P w = .ok ((l.map fun b => ((b : Nat) : Int)).map (Value.int .u8)).toArray w := by
      have := run_loadCells_list (P := P) w ad (vby l) (fun j v hj => by
        obtain ⟨b, o, hA, _, hc⟩ := h j v hj
        cases hA
        rw [Addr.add_lit]; exact hc)
      rw [vby_length] at this
      rw [List.map_map]; simpa [vby, Function.comp_def] using this
    rw [run_convert_bytes_string w src dst e _ _ c hs he hd, run_bytesToString w ad _ c _ hload, foldl_push_bytes]
    simp [strOf, ByteArray.empty, ByteArray.emptyWithCapacity]
    show [] ++ _ = _
    simp [Function.comp_def]
#print axioms run_conv
#print axioms Bs.one
end Go.Proofs.Ytggffiikfelbjaa
