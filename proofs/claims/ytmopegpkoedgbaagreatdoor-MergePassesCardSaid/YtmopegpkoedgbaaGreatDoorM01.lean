/- Lemmas for the row: Base, BitsPlain, CrcPlain, StrL, Vu, MrgT, Bl, MrgV. -/
import Derived.Test.YtmopegpkoedgbaaGreatDoorRows
import Derived.BigQuiet
import Derived.Deep.AppendLies
import Derived.Deep.DeepCutAuto
import Derived.Deep.QuietTactic
import Derived.Deep.RegionHeld3
import Derived.Deep.RegionLaw
import Derived.Deep.RegionLawGrows
import Derived.Handy
import Derived.Lib.Hide
import Derived.Maps.AppendAt
import Derived.PlainAid
import Derived.WalkKit
import Derived.WalkLawsBesides
import Derived.WalkSpells
set_option linter.unusedVariables false
set_option linter.unusedSimpArgs false
/- Small words on memory for the walks of this seat: what a slice reads as (nil, empty or not), frames, ranges of integers. Plain lemmas, no program in sight but for the seat's imports. -/
namespace Go.Proofs.YtmopegpkoedgbaaGreatDoor
open Go.RowKit

/-- A fact kept from the walk. -/
theorem hide {p : Prop} (h : p) : Hid p := h

/-- An int's range. -/
def I64 (n : Int) : Prop := -9223372036854775808 ≤ n ∧ n ≤ 9223372036854775807
/-- A uint64's range. -/
def U64 (n : Int) : Prop := 0 ≤ n ∧ n ≤ 18446744073709551615

theorem ret_int {k : IntKind} {a b : Int} (h : a = b) : Ending.returned (.int k a) = .returned (.int k b) := by rw [h]
theorem v_int {k : IntKind} {a b : Int} (h : a = b) : Value.int k a = .int k b := by rw [h]
theorem below_drewN {B : Nat} {a w : World} (h : Below B a w) (n : Nat) : Below B a (w.drewN n) := ⟨h.os, h.tape, h.output, h.size, h.block⟩

/-- The slice's cells from address A on read as xs (one cell an element), all in blocks below B. -/
def Rd (w : World) (B : Nat) (A : Option Addr) (xs : List Value) : Prop :=
  ∀ i u, xs[i]? = some u → ∃ b o, A = some ⟨b, o, none⟩ ∧ b < B ∧ w.cell? ⟨b, o + i, none⟩ = some u

section
variable {w w' : World} {B B' : Nat} {A : Option Addr} {xs : List Value}
theorem Rd.nil_ : Rd w B A [] := fun i u h => by simp at h
theorem Rd.keep (h : Rd w B A xs) (hk : ∀ p : Addr, p.block < B → w'.cell? p = w.cell? p) : Rd w' B A xs := fun i u hu => by
  obtain ⟨b, o, e, hb, hc⟩ := h i u hu
  exact ⟨b, o, e, hb, (hk ⟨b, o + i, none⟩ hb).trans hc⟩
theorem Rd.more (h : Rd w B A xs) (hB : B ≤ B') : Rd w B' A xs := fun i u hu => by
  obtain ⟨b, o, e, hb, hc⟩ := h i u hu
  exact ⟨b, o, e, Nat.lt_of_lt_of_le hb hB, hc⟩
theorem Rd.below (h : Rd w B A xs) (hb : Below B w w') : Rd w' B A xs := h.keep fun _ hp => hb.cell hp
theorem Rd.alloc (h : Rd w B A xs) (hB : B ≤ w.heap.size) (o : Obj) : Rd (w.alloc o) B A xs := h.keep fun p hp => World.cell?_alloc_lt w o p (by omega)
end


/-- The frame of a call that writes into some blocks (S) and makes new ones: all other old blocks are as they were. -/
structure Fr (S : Nat → Prop) (w w' : World) : Prop where
  os : w'.os = w.os
  tape : w'.tape = w.tape
  output : w'.output = w.output
  size : w.heap.size ≤ w'.heap.size
  block : ∀ k, k < w.heap.size → ¬ S k → w'.heap[k]? = w.heap[k]?

section
variable {w w' a b : World} {S T : Nat → Prop}
theorem Fr.refl (S : Nat → Prop) (w : World) : Fr S w w := ⟨rfl, rfl, rfl, Nat.le_refl _, fun _ _ _ => rfl⟩
/-- The second step may write what the first one may, and what is new. -/
theorem Fr.trans (h : Fr S a w) (k : Fr T w w') (hT : ∀ g, T g → S g ∨ a.heap.size ≤ g) : Fr S a w' :=
  ⟨k.os.trans h.os, k.tape.trans h.tape, k.output.trans h.output, Nat.le_trans h.size k.size, fun i hi hS =>
    (k.block i (Nat.lt_of_lt_of_le hi h.size) (fun ht => (hT i ht).elim hS (fun _ => by omega))).trans (h.block i hi hS)⟩
theorem Fr.mono (h : Fr S a w) (hS : ∀ g, S g → T g) : Fr T a w := ⟨h.os, h.tape, h.output, h.size, fun i hi ht => h.block i hi (fun hs => ht (hS i hs))⟩
theorem Fr.drew (h : Fr S a w) : Fr S a w.drew := ⟨h.os, h.tape, h.output, h.size, h.block⟩
theorem Fr.drewN (h : Fr S a w) (n : Nat) : Fr S a (w.drewN n) := ⟨h.os, h.tape, h.output, h.size, h.block⟩
theorem Fr.alloc (h : Fr S a w) (o : Obj) : Fr S a (w.alloc o) :=
  ⟨h.os, h.tape, h.output, Nat.le_trans h.size (by simp), fun i hi hS => (Below.heap_alloc w o i (Nat.lt_of_lt_of_le hi h.size)).trans (h.block i hi hS)⟩
theorem Fr.setCell (h : Fr S a w) {p : Addr} (hp : S p.block ∨ a.heap.size ≤ p.block) (u : Value) : Fr S a (w.setCell p u) :=
  ⟨h.os, h.tape, h.output, by simpa [World.setCell] using h.size, fun i hi hS => (Below.heap_setCell w p u i (by
    rintro rfl
    rcases hp with hp | hp
    · exact hS hp
    · omega)).trans (h.block i hi hS)⟩
theorem Fr.below (h : Below w.heap.size w w') (S : Nat → Prop) : Fr S w w' := ⟨h.os, h.tape, h.output, h.size, fun i hi _ => h.block i hi⟩
theorem Fr.grown {row : Option Nat} (h : w.grownBy w' row) (hS : ∀ g, row = some g → S g) : Fr S w w' :=
  ⟨h.os, h.tape, h.output, h.size, fun i hi hn => h.block i hi (fun e => hn (hS i e.symm))⟩
theorem Fr.toBelowB {B : Nat} (h : Fr S w w') (hS : ∀ g, S g → B ≤ g) (hB : B ≤ w.heap.size) : Below B w w' :=
  ⟨h.os, h.tape, h.output, h.size, fun k hk => h.block k (by omega) (fun hs => by have := hS k hs; omega)⟩
theorem Fr.cell (h : Fr S w w') {p : Addr} {v : Value} (hp : ¬ S p.block) (hc : w.cell? p = some v) : w'.cell? p = some v :=
  (World.cell?_of_block (h.block p.block (World.block_lt_of_cell? w p hc) hp)).trans hc
end

/-- Block g is just these cells, none frozen. -/
def Bk (w : World) (g : Nat) (t : TypeId) (cs : Array Value) : Prop := w.heap[g]? = some (.cells cs t (0, 0))
section
variable {w w' : World} {g : Nat} {t : TypeId} {cs : Array Value} {S : Nat → Prop}
theorem Bk.lt (h : Bk w g t cs) : g < w.heap.size := (Array.getElem?_eq_some_iff.1 h).1
theorem Bk.cell (h : Bk w g t cs) (i : Nat) : w.cell? ⟨g, i, none⟩ = cs[i]? := cell_of_row w g i cs t (0, 0) h
theorem Bk.free (h : Bk w g t cs) (i : Nat) : w.frozen? ⟨g, i, none⟩ = false := by
  unfold Bk at h
  simp [World.frozen?, h]
theorem Bk.new (w : World) (t : TypeId) (cs : Array Value) : Bk (w.alloc (.cells cs t)) w.heap.size t cs := heap_alloc_new w _
theorem Bk.drew (h : Bk w g t cs) : Bk w.drew g t cs := h
theorem Bk.drewN (h : Bk w g t cs) (n : Nat) : Bk (w.drewN n) g t cs := h
theorem Bk.alloc (h : Bk w g t cs) (o : Obj) : Bk (w.alloc o) g t cs := (Below.heap_alloc w o g h.lt).trans h
theorem Bk.set_ (h : Bk w g t cs) (i : Nat) (u : Value) : Bk (w.setCell ⟨g, i, none⟩ u) g t (cs.setIfInBounds i u) := by
  unfold Bk at h ⊢
  simp [World.setCell, Array.getElem?_modify, h]
theorem Bk.far (h : Bk w g t cs) {p : Addr} (hp : g ≠ p.block) (u : Value) : Bk (w.setCell p u) g t cs := (Below.heap_setCell w p u g hp).trans h
theorem Bk.below {B : Nat} (h : Bk w g t cs) (hb : Below B w w') (hg : g < B) : Bk w' g t cs := (hb.block g hg).trans h
theorem Bk.fr (h : Bk w g t cs) (hf : Fr S w w') (hg : ¬ S g) : Bk w' g t cs := (hf.block g h.lt hg).trans h
theorem Bk.grown {row : Option Nat} (h : Bk w g t cs) (hb : w.grownBy w' row) (hg : some g ≠ row) : Bk w' g t cs := (hb.block g h.lt hg).trans h
/-- Two blocks of two types are two. -/
theorem Bk.ne_ {g' : Nat} {t' : TypeId} {cs' : Array Value} (h : Bk w g t cs) (h' : Bk w g' t' cs') (hne : t ≠ t') : g ≠ g' := by
  rintro rfl
  unfold Bk at h h'
  rw [h] at h'
  simp only [Option.some.injEq, Obj.cells.injEq] at h'
  exact hne h'.2.1
theorem own_ne {base : Nat} {e : TypeId} {size n : Nat} {v : Value} {xs : List Value} (h : w.ownsRow base e size v n xs) (hg : Bk w g t cs) (hne : e ≠ t) : some g ≠ v.ownBlock := by
  rcases h.2 with ⟨rfl, _⟩ | ⟨g', cap, cur, rfl, _, hh, _⟩
  · simp [Value.ownBlock]
  · intro he
    have : g = g' := by simpa [Value.ownBlock] using he
    exact Bk.ne_ (t := e) hh hg hne this.symm
theorem own_base {base base' e size n : Nat} {v : Value} {xs : List Value} (h : w.ownsRow base e size v n xs) (hB : ∀ g, v.ownBlock = some g → base' ≤ g) : w.ownsRow base' e size v n xs := by
  refine ⟨h.1, h.2.imp id ?_⟩
  rintro ⟨g, cap, cur, rfl, _, c⟩
  exact ⟨g, cap, cur, rfl, hB g rfl, c⟩
theorem own_fr {base e size n : Nat} {v : Value} {xs : List Value} (h : w.ownsRow base e size v n xs) (hf : Fr S w w') (hS : ∀ g, v.ownBlock = some g → ¬ S g) : w'.ownsRow base e size v n xs := by
  refine ⟨h.1, h.2.imp id ?_⟩
  rintro ⟨g, cap, cur, rfl, hb, hg, r⟩
  exact ⟨g, cap, cur, rfl, hb, (hf.block g (Array.getElem?_eq_some_iff.1 hg).1 (hS g rfl)).trans hg, r⟩
theorem own_set {base e size n : Nat} {v : Value} {xs : List Value} (h : w.ownsRow base e size v n xs) {p : Addr} (hp : v.ownBlock ≠ some p.block) (u : Value) : (w.setCell p u).ownsRow base e size v n xs := by
  refine ⟨h.1, h.2.imp id ?_⟩
  rintro ⟨g, cap, cur, rfl, hb, hg, r⟩
  exact ⟨g, cap, cur, rfl, hb, (Below.heap_setCell w p u g (fun e => hp (by subst e; rfl))).trans hg, r⟩
theorem own_lt {base e size n : Nat} {v : Value} {xs : List Value} (h : w.ownsRow base e size v n xs) : ∀ g, v.ownBlock = some g → g < w.heap.size := fun g hg => (h.lt g hg).2
/-- What is owned is read. -/
theorem own_rd {base e n c : Nat} {A : Option Addr} {xs : List Value} (h : w.ownsRow base e 1 (.slice A n c) n xs) : Rd w w.heap.size A xs := fun i u hu => by
  rcases h.2 with ⟨hv, hn⟩ | ⟨g, cap, cur, hv, hb, hg, hc⟩
  · have := h.1
    rw [hn] at this
    have hx : xs = [] := List.eq_nil_of_length_eq_zero (by simpa using this)
    subst hx
    simp at hu
  · simp only [Value.slice.injEq] at hv
    obtain ⟨rfl, _, rfl⟩ := hv
    refine ⟨g, 0, rfl, (Array.getElem?_eq_some_iff.1 hg).1, ?_⟩
    have := h.cells (g := g) rfl i u hu
    rw [Addr.add_lit] at this
    exact this
end

theorem Bk.keep {w w' : World} {g : Nat} {t : TypeId} {cs : Array Value} (h : Bk w g t cs) (hb : Below w.heap.size w w') : Bk w' g t cs := h.below hb h.lt
theorem Bk.new1 (w : World) (X : Obj) (t : TypeId) (cs : Array Value) : Bk ((w.alloc X).alloc (.cells cs t)) (w.heap.size + 1) t cs := by
  have := Bk.new (w.alloc X) t cs
  rwa [show (w.alloc X).heap.size = w.heap.size + 1 by simp] at this
theorem Bk.new2 (w : World) (X Y : Obj) (t : TypeId) (cs : Array Value) : Bk (((w.alloc X).alloc Y).alloc (.cells cs t)) (w.heap.size + 1 + 1) t cs := by
  have := Bk.new1 (w.alloc X) Y t cs
  rwa [show (w.alloc X).heap.size = w.heap.size + 1 by simp] at this
/-- A struct of two cells, as a result. -/
theorem two_cells {w : World} {g : Nat} {t : TypeId} {a b : Value} (h : Bk w g t #[a, b]) : w.cell? ⟨g, 0, none⟩ = some a ∧ w.cell? ⟨g, 1, none⟩ = some b := ⟨h.cell 0, h.cell 1⟩

end Go.Proofs.YtmopegpkoedgbaaGreatDoor
/- Bits, plainly: a byte text and a number of bits as a list of Bools; right ones; two right ones of the same bits are one. No program in sight. -/
namespace Go.Proofs.YtmopegpkoedgbaaGreatDoor
open Go.RowKit

/-- Byte k of a text, as a number; behind its end 0. -/
def byt (s : ByteArray) (k : Nat) : Nat := if h : k < s.size then (s[k]'h).toNat else 0
theorem byt_of (s : ByteArray) {k : Nat} (h : k < s.size) : (s[k]'h).toNat = byt s k := by unfold byt; rw [dif_pos h]
theorem byt_lt (s : ByteArray) (k : Nat) : byt s k < 256 := by
  unfold byt; split
  · exact UInt8.toNat_lt _
  · omega
theorem byt_ext {s t : ByteArray} (hs : s.size = t.size) (h : ∀ k, k < s.size → byt s k = byt t k) : s = t := by
  apply ByteArray.ext
  apply Array.ext
  · exact hs
  · intro i h1 h2
    have := h i h1
    rw [← byt_of s h1, ← byt_of t h2] at this
    exact UInt8.toNat_inj.1 this

/-- A list of bytes as a text, and as values. -/
def strOf (l : List Nat) : ByteArray := ⟨(l.map UInt8.ofNat).toArray⟩
def vby (l : List Nat) : List Value := l.map fun b => .int .u8 (b : Nat)
@[simp] theorem vby_length (l : List Nat) : (vby l).length = l.length := by simp [vby]
theorem strOf_size (l : List Nat) : (strOf l).size = l.length := by simp [strOf, ByteArray.size]
theorem strOf_byt (l : List Nat) (h : ∀ b ∈ l, b < 256) (k : Nat) : byt (strOf l) k = l.getD k 0 := by
  by_cases hk : k < l.length
  · rw [← byt_of _ (by rw [strOf_size]; exact hk)]
    have : (strOf l)[k]'(by rw [strOf_size]; exact hk) = UInt8.ofNat l[k] := by
      show (strOf l).data[k]'_ = _
      simp [strOf]
    rw [this]
    simp [hk]
    exact h _ (List.getElem_mem hk)
  · unfold byt; rw [dif_neg (by rw [strOf_size]; exact hk)]; simp [List.getD, List.getElem?_eq_none (Nat.le_of_not_lt hk)]
/-- Bytes that lie in memory, made a text. -/
theorem run_conv (P : Program) (w : World) (src e : TypeId) (hs : P.underlying src = some (.slice e)) (he : P.underlying e = some (.int .u8)) (dst : TypeId) (hd : P.underlying dst = some .string)
    {B : Nat} {A : Option Addr} {l : List Nat} (h : Rd w B A (vby l)) (c : Nat) : (convert src dst (.slice A l.length c)).run P w = .ok (.string (strOf l)) w := by
  cases A with
  | none =>
    have hl : l = [] := by
      cases l with
      | nil => rfl
      | cons x l => obtain ⟨b, o, hA, _⟩ := h 0 (.int .u8 (x : Nat)) (by simp [vby]); cases hA
    subst hl
    exact run_convert_bytes_nil w src e hs he _ c dst hd
  | some ad =>
    have hload : (loadCells ad l.length).run P w = .ok ((l.map fun b => ((b : Nat) : Int)).map (Value.int .u8)).toArray w := by
      have := run_loadCells_list (P := P) w ad (vby l) (fun j v hj => by
        obtain ⟨b, o, hA, _, hc⟩ := h j v hj
        cases hA
        rw [Addr.add_lit]; exact hc)
      rw [vby_length] at this
      rw [List.map_map]; simpa [vby, Function.comp_def] using this
    rw [run_convert_bytes_string w src dst e _ _ c hs he hd, run_bytesToString w ad _ c _ hload, foldl_push_bytes]
    simp [strOf, ByteArray.empty, ByteArray.emptyWithCapacity]
    show [] ++ _ = _
    simp [Function.comp_def]
end Go.Proofs.YtmopegpkoedgbaaGreatDoor
/- Check sums, plainly: a register of 32 bits, bit by bit. No program in sight. -/
namespace Go.Proofs.YtmopegpkoedgbaaGreatDoor
open Go.RowKit

def crcP : Nat := 3988292384
/-- One bit. -/
def f1 (r : Nat) : Nat := r / 2 ^^^ (if r % 2 = 1 then crcP else 0)
def fN : Nat → Nat → Nat
  | 0, r => r
  | k + 1, r => fN k (f1 r)
/-- A byte. -/
def crcB (r c : Nat) : Nat := fN 8 (r ^^^ c)
theorem xor_half (a b : Nat) : (a ^^^ b) / 2 = a / 2 ^^^ b / 2 := by
  apply Nat.eq_of_testBit_eq
  intro i
  rw [Nat.testBit_xor, Nat.testBit_div_two, Nat.testBit_div_two, Nat.testBit_div_two, Nat.testBit_xor]
theorem xor_odd (a b : Nat) : (a ^^^ b) % 2 = if a % 2 = b % 2 then 0 else 1 := by
  have h := Nat.testBit_xor a b 0
  simp only [Nat.testBit_zero] at h
  have ha := Nat.mod_two_eq_zero_or_one a
  have hb := Nat.mod_two_eq_zero_or_one b
  have hx := Nat.mod_two_eq_zero_or_one (a ^^^ b)
  rcases ha with ha | ha <;> rcases hb with hb | hb <;> rcases hx with hx | hx <;> simp [ha, hb, hx] at h ⊢
theorem xor_four (a b c d : Nat) : (a ^^^ b) ^^^ (c ^^^ d) = (a ^^^ c) ^^^ (b ^^^ d) := by
  rw [Nat.xor_assoc, Nat.xor_assoc, ← Nat.xor_assoc b, Nat.xor_comm b c, Nat.xor_assoc c]
theorem f1_xor (a b : Nat) : f1 (a ^^^ b) = f1 a ^^^ f1 b := by
  unfold f1
  rw [xor_half, xor_odd, xor_four]
  congr 1
  rcases Nat.mod_two_eq_zero_or_one a with ha | ha <;> rcases Nat.mod_two_eq_zero_or_one b with hb | hb <;> simp [ha, hb]
theorem fN_xor (k a b : Nat) : fN k (a ^^^ b) = fN k a ^^^ fN k b := by
  induction k generalizing a b with
  | zero => rfl
  | succ k ih => rw [fN, f1_xor, ih, fN, fN]
theorem fN_succ (k r : Nat) : fN (k + 1) r = f1 (fN k r) := by
  induction k generalizing r with
  | zero => rfl
  | succ k ih => rw [fN, ih, fN]
theorem f1_even (m : Nat) : f1 (2 * m) = m := by
  unfold f1
  rw [Nat.mul_mod_right, if_neg (by decide), Nat.xor_zero, Nat.mul_div_cancel_left _ (by decide)]
theorem fN_shift (k m : Nat) : fN k (2 ^ k * m) = m := by
  induction k generalizing m with
  | zero => simp [fN]
  | succ k ih => rw [fN, show 2 ^ (k + 1) * m = 2 * (2 ^ k * m) by rw [Nat.pow_succ]; simp [Nat.mul_comm, Nat.mul_left_comm], f1_even, ih]
theorem f1_lt {r : Nat} (h : r < 4294967296) : f1 r < 4294967296 := by
  unfold f1
  have h1 : r / 2 < 2 ^ 32 := by omega
  have h2 : (if r % 2 = 1 then crcP else 0) < 2 ^ 32 := by split <;> decide
  exact Nat.xor_lt_two_pow h1 h2
theorem fN_lt {r : Nat} (h : r < 4294967296) (k : Nat) : fN k r < 4294967296 := by
  induction k generalizing r with
  | zero => exact h
  | succ k ih => exact ih (f1_lt h)
theorem xor_lt32 {a b : Nat} (ha : a < 4294967296) (hb : b < 4294967296) : a ^^^ b < 4294967296 := Nat.xor_lt_two_pow (n := 32) ha hb
theorem crcB_lt {r c : Nat} (h : r < 4294967296) (hc : c < 256) : crcB r c < 4294967296 := fN_lt (xor_lt32 h (by omega)) 8
theorem split8 (x : Nat) : x = 256 * (x / 256) ^^^ x % 256 := by
  apply Nat.eq_of_testBit_eq
  intro i
  rw [Nat.testBit_xor, show 256 * (x / 256) = 2 ^ 8 * (x / 256) from rfl, Nat.testBit_two_pow_mul, show x % 256 = x % 2 ^ 8 from rfl, Nat.testBit_mod_two_pow, show x / 256 = x / 2 ^ 8 from rfl, Nat.testBit_div_two_pow]
  by_cases h : i < 8
  · simp [h, Nat.not_le.2 h]
  · have h' : 8 ≤ i := by omega
    simp [h, h', Nat.sub_add_cancel h']
theorem xor_hi {r c : Nat} (hc : c < 256) : (r ^^^ c) / 256 = r / 256 := by
  apply Nat.eq_of_testBit_eq
  intro i
  rw [show (r ^^^ c) / 256 = (r ^^^ c) / 2 ^ 8 from rfl, show r / 256 = r / 2 ^ 8 from rfl, Nat.testBit_div_two_pow, Nat.testBit_div_two_pow, Nat.testBit_xor, Nat.testBit_lt_two_pow (x := c) (i := i + 8) (by
    have : 2 ^ 8 ≤ 2 ^ (i + 8) := Nat.pow_le_pow_right (by decide) (by omega)
    omega)]
  simp
/-- A byte, as the program does it. -/
theorem crcB_table {r c : Nat} (hc : c < 256) : r / 256 ^^^ fN 8 ((r ^^^ c) % 256) = crcB r c := by
  unfold crcB
  conv => rhs; rw [split8 (r ^^^ c), fN_xor, show 256 * ((r ^^^ c) / 256) = 2 ^ 8 * ((r ^^^ c) / 256) from rfl, fN_shift, xor_hi hc]
/-- A bit, as the document does it. -/
def g1 (r d : Nat) : Nat := r / 2 ^^^ (if (r ^^^ d) % 2 = 1 then crcP else 0)
/-- The register behind bytes. -/
def crcR (r : Nat) (l : List Nat) : Nat := l.foldl crcB r
theorem crcR_lt {l : List Nat} (hl : ∀ x ∈ l, x < 256) : ∀ {r : Nat}, r < 4294967296 → crcR r l < 4294967296 := by
  unfold crcR
  induction l with
  | nil => intro r h; exact h
  | cons c l ih => intro r h; exact ih (fun x hx => hl x (List.mem_cons_of_mem _ hx)) (crcB_lt h (hl c (by simp)))
theorem crcR_snoc (r : Nat) (l : List Nat) (c : Nat) : crcR r (l ++ [c]) = crcB (crcR r l) c := by unfold crcR; rw [List.foldl_append]; rfl
/-- A sum that goes on. -/
def crcM (sum : Nat) (l : List Nat) : Nat := 4294967295 - crcR (4294967295 - sum) l
def crcS (l : List Nat) : Nat := crcM 0 l
theorem crcS_lt (l : List Nat) : crcS l < 4294967296 := by unfold crcS crcM; omega
/-- The four bytes of a sum, the lowest one first. -/
def tail4 (n : Nat) : List Nat := [n % 256, n / 256 % 256, n / 65536 % 256, n / 16777216 % 256]
end Go.Proofs.YtmopegpkoedgbaaGreatDoor
/- A text as a list of its bytes; a number's bytes; plainly. No program in sight. -/
namespace Go.Proofs.YtmopegpkoedgbaaGreatDoor
open Go.RowKit

def strL (s : ByteArray) : List Nat := (List.range s.size).map (byt s)
@[simp] theorem strL_length (s : ByteArray) : (strL s).length = s.size := by simp [strL]
theorem strL_get {s : ByteArray} {k : Nat} (h : k < s.size) : (strL s)[k]? = some (byt s k) := by simp [strL, h]
theorem strL_lt (s : ByteArray) : ∀ x ∈ strL s, x < 256 := fun x hx => by
  obtain ⟨k, _, rfl⟩ := List.mem_map.1 hx
  exact byt_lt s k
theorem strL_inj {s t : ByteArray} (h : strL s = strL t) : s = t := by
  have hs : s.size = t.size := by rw [← strL_length s, h, strL_length]
  refine byt_ext hs fun k hk => ?_
  have h1 := strL_get hk
  rw [h, strL_get (by omega)] at h1
  exact (Option.some.inj h1).symm
theorem strL_of {l : List Nat} (h : ∀ x ∈ l, x < 256) : strL (strOf l) = l := by
  apply List.ext_getElem?
  intro k
  rcases Nat.lt_or_ge k l.length with g | g
  · rw [strL_get (by rw [strOf_size]; exact g), strOf_byt l h, List.getD_eq_getElem?_getD, List.getElem?_eq_getElem g]; rfl
  · rw [List.getElem?_eq_none (by rw [strL_length, strOf_size]; exact g), List.getElem?_eq_none g]
theorem strOf_strL (s : ByteArray) : strOf (strL s) = s := strL_inj (strL_of (strL_lt s))
theorem strL_take {s : ByteArray} {k : Nat} (h : k < s.size) : (strL s).take (k + 1) = (strL s).take k ++ [byt s k] := by rw [List.take_add_one, strL_get h]; rfl
/-- A number's five bytes, the highest first. -/
def five (n : Nat) : List Nat := [n / 4294967296 % 256, n / 16777216 % 256, n / 65536 % 256, n / 256 % 256, n % 256]
def ofB (l : List Nat) : Nat := l.foldl (fun n c => 256 * n + c) 0
theorem ofB_snoc (l : List Nat) (c : Nat) : ofB (l ++ [c]) = 256 * ofB l + c := by unfold ofB; rw [List.foldl_append]; rfl
theorem tail4_lt (n : Nat) : ∀ x ∈ tail4 n, x < 256 := by intro x hx; simp [tail4] at hx; omega
end Go.Proofs.YtmopegpkoedgbaaGreatDoor
/- A row of numbers as cells. -/
namespace Go.Proofs.YtmopegpkoedgbaaGreatDoor
open Go.RowKit

def vu64 (l : List Nat) : List Value := l.map fun x => .int .u64 (x : Nat)
theorem vu64_length (l : List Nat) : (vu64 l).length = l.length := by simp [vu64]
/-- One number of a row that is read. -/
theorem Rd.u64 {w : World} {B : Nat} {A : Option Addr} {l : List Nat} (h : Rd w B A (vu64 l)) {i : Nat} (hi : i < l.length) : ∃ b o x, A = some ⟨b, o, none⟩ ∧ b < B ∧ l[i]? = some x ∧ w.cell? ⟨b, o + i, none⟩ = some (.int .u64 (x : Nat)) := by
  obtain ⟨b, o, e, hb, hc⟩ := h i (.int .u64 (l[i] : Nat)) (by unfold vu64; rw [List.getElem?_map, List.getElem?_eq_getElem hi]; rfl)
  exact ⟨b, o, l[i], e, hb, List.getElem?_eq_getElem hi, hc⟩
end Go.Proofs.YtmopegpkoedgbaaGreatDoor
/- Walks: merge.Fan, merge.Passes, and the document's. -/
namespace Go.Proofs.YtmopegpkoedgbaaGreatDoor
open Go.RowKit

/-- A budget's fan-in. -/
def fanW (budget : Int) : Int × Int := if budget < 24 then (0, 9) else if 256 < budget then (0, 1) else (budget - 6, 0)
/-- How often files are made fewer. -/
def passL (k : Nat) : Nat → Nat → Nat → Nat
  | 0, _, n => n
  | f + 1, x, n => if 1 < x then passL k f ((x + k - 1) / k) (n + 1) else n
def passW (budget files : Int) : Int × Int :=
  if (fanW budget).2 ≠ 0 then (0, (fanW budget).2)
  else if files < 0 ∨ 65536 < files then (0, 1)
  else ((passL (budget - 6).toNat (files.toNat + 1) files.toNat 0 : Nat), 0)
theorem pass_less {x k : Nat} (hk : 2 ≤ k) (hx : 1 < x) : (x + k - 1) / k < x := by
  refine Nat.div_lt_of_lt_mul ?_
  have : x + k ≤ k * x := by
    obtain ⟨y, rfl⟩ : ∃ y, x = y + 2 := ⟨x - 2, by omega⟩
    obtain ⟨z, rfl⟩ : ∃ z, k = z + 2 := ⟨k - 2, by omega⟩
    have : (z + 2) * (y + 2) = z * y + 2 * z + 2 * y + 4 := by
      rw [Nat.add_mul, Nat.mul_add, Nat.mul_add]; omega
    omega
  omega
theorem passL_step {k f x n : Nat} (hx : 1 < x) (hf : x < f) : ∃ g, f = g + 1 ∧ passL k f x n = passL k g ((x + k - 1) / k) (n + 1) := by
  obtain ⟨g, rfl⟩ : ∃ g, f = g + 1 := ⟨f - 1, by omega⟩
  exact ⟨g, rfl, by rw [passL, if_pos hx]⟩
theorem passL_end {k f x n : Nat} (hx : ¬ 1 < x) : passL k f x n = n := by
  cases f with
  | zero => rfl
  | succ f => rw [passL, if_neg hx]
theorem fan_any (b : Int) (w : World) (hb : I64 b) : Calls Tryz.prog 19 #[.int .i64 b] w fun e w' => e = .returned (.tuple #[.int .i64 (fanW b).1, .int .i64 (fanW b).2]) ∧ w' = w := by
  obtain ⟨hb1, hb2⟩ := hb
  unfold fanW
  by_cases h : b < 24
  · rw [if_pos h]
    go_enter Tryz.func19, Tryz.ntmps19
    go_wp2_with fail
    go_ret2
    exact ⟨rfl, rfl⟩
  · by_cases h2 : 256 < b
    · rw [if_neg h, if_pos h2]
      go_enter Tryz.func19, Tryz.ntmps19
      go_wp2_with fail
      go_ret2
      exact ⟨rfl, rfl⟩
    · rw [if_neg h, if_neg h2]
      have e : IntKind.i64.wrap (b - 6) = b - 6 := IntWalk.i64_in _ ⟨by omega, by omega⟩
      go_enter Tryz.func19, Tryz.ntmps19
      go_wp2_with fail
      go_ret2
      exact ⟨by first | rfl | (rw [e]), rfl⟩
theorem rfan_any (b : Int) (w : World) (hb : I64 b) : Calls Tryz.prog 20 #[.int .i64 b] w fun e w' => e = .returned (.tuple #[.int .i64 (fanW b).1, .int .i64 (fanW b).2]) ∧ w' = w := by
  obtain ⟨hb1, hb2⟩ := hb
  unfold fanW
  by_cases h : b < 24
  · rw [if_pos h]
    go_enter Tryz.func20, Tryz.ntmps20
    go_wp2_with fail
    go_ret2
    exact ⟨rfl, rfl⟩
  · by_cases h2 : 256 < b
    · rw [if_neg h, if_pos h2]
      go_enter Tryz.func20, Tryz.ntmps20
      go_wp2_with fail
      go_ret2
      exact ⟨rfl, rfl⟩
    · rw [if_neg h, if_neg h2]
      have e : IntKind.i64.wrap (b - 6) = b - 6 := IntWalk.i64_in _ ⟨by omega, by omega⟩
      go_enter Tryz.func20, Tryz.ntmps20
      go_wp2_with fail
      go_ret2
      exact ⟨by first | rfl | (rw [e]), rfl⟩
set_option maxHeartbeats 2000000 in
theorem passes_any (b files : Int) (w : World) (hb : I64 b) (hf : I64 files) : Calls Tryz.prog 21 #[.int .i64 b, .int .i64 files] w fun e w' => e = .returned (.tuple #[.int .i64 (passW b files).1, .int .i64 (passW b files).2]) ∧ w' = w := by
  have hfa := fun W => fan_any b W hb
  obtain ⟨R, hR⟩ : ∃ R, R = passW b files := ⟨_, rfl⟩
  rw [← hR]
  unfold passW at hR
  obtain ⟨hf1, hf2⟩ := hf
  by_cases h0 : (fanW b).2 = 0
  · rw [if_neg (by rw [h0]; exact fun e => e rfl)] at hR
    have hfb : fanW b = (b - 6, 0) ∧ 24 ≤ b ∧ b ≤ 256 := by
      unfold fanW at h0 ⊢
      split at h0
      · cases h0
      · split at h0
        · cases h0
        · rename_i h1 h2
          rw [if_neg h1, if_neg h2]
          exact ⟨rfl, by omega, by omega⟩
    obtain ⟨hfb, hb24, hb256⟩ := hfb
    rw [hfb] at hfa
    obtain ⟨k, hk⟩ : ∃ k : Nat, (k : Int) = b - 6 := ⟨(b - 6).toNat, by omega⟩
    rw [← hk, Int.toNat_natCast] at hR
    dsimp only at hfa
    rw [← hk] at hfa
    have hk18 : 18 ≤ k := by omega
    have hk250 : k ≤ 250 := by omega
    have HFa := hide hfa
    clear hfa hfb h0 hk
    by_cases h1 : files < 0 ∨ 65536 < files
    · rw [if_pos h1] at hR
      have HR := hide hR
      clear hR
      by_cases g : files < 0
      · clear h1
        go_enter Tryz.func21, Tryz.ntmps21
        go_wp2_with (go_at_call 19; refine (HFa.out _).mono ?_; rintro e w1 ⟨rfl, ew⟩; obtain rfl : w = w1 := ew.symm)
        go_ret2
        exact ⟨by rw [HR.out]; rfl, by first | rfl | trivial⟩
      · have g2 : 65536 < files := by omega
        clear h1
        go_enter Tryz.func21, Tryz.ntmps21
        go_wp2_with (go_at_call 19; refine (HFa.out _).mono ?_; rintro e w1 ⟨rfl, ew⟩; obtain rfl : w = w1 := ew.symm)
        go_ret2
        exact ⟨by rw [HR.out]; rfl, by first | rfl | trivial⟩
    · rw [if_neg h1] at hR
      obtain ⟨x, rfl⟩ : ∃ x : Nat, files = (x : Int) := ⟨files.toNat, by omega⟩
      rw [Int.toNat_natCast] at hR
      have hx : x ≤ 65536 := by omega
      have g1 : ¬ (x : Int) < 0 := by omega
      have g2 : ¬ (65536 : Int) < (x : Int) := by omega
      obtain ⟨M, hM⟩ : ∃ M, M = passL k (x + 1) x 0 := ⟨_, rfl⟩
      rw [← hM] at hR
      have HM := hide hM
      have HR := hide hR
      clear hM hR h1 hf1 hf2
      go_enter Tryz.func21, Tryz.ntmps21
      go_upto_region 7 with (go_at_call 19; refine (HFa.out _).mono ?_; rintro e w1 ⟨rfl, ew⟩; obtain rfl : w = w1 := ew.symm)
      go_loopw [1, 8] (fun a c wr => ∃ y n f : Nat, a = .int .i64 y ∧ c = .int .i64 n ∧ y ≤ 65536 ∧ n + y ≤ 65536 ∧ y < f ∧ Hid (M = passL k f y n) ∧ wr = w) (fun a _ _ => (intOf a).toNat)
      case atStart => exact ⟨x, 0, x + 1, rfl, rfl, hx, by omega, by omega, HM, rfl⟩
      case round =>
        clear HM
        obtain ⟨y, n, f, rfl, rfl, hy, hny, hyf, HM, rfl⟩ := hrel
        by_cases hgo : 1 < y
        · obtain ⟨g, rfl, hst⟩ := passL_step (k := k) (n := n) hgo hyf
          have hless := pass_less (k := k) (by omega) hgo
          obtain ⟨z, hz⟩ : ∃ z, z = (y + k - 1) / k := ⟨_, rfl⟩
          have hzI : ((y : Int) + (k : Int) - 1) / (k : Int) = (z : Int) := by
            rw [hz, Int.natCast_ediv]
            congr 1
            omega
          rw [← hz] at hst hless
          have hM := HM.out
          rw [hst] at hM
          have HM2 := hide hM
          have hgoI : (1 : Int) < (y : Int) := by omega
          have HZ := hide hzI
          clear hst hM hz HM
          go_wp2_with fail
          exact ⟨⟨z, n + 1, g, by rw [HZ.out], v_int (by omega), by omega, by omega, by omega, HM2, by first | rfl | trivial⟩, by rw [HZ.out]; simp [intOf]; omega⟩
        · have hM := HM.out
          rw [passL_end hgo] at hM
          have HM2 := hide hM
          have hgoI : ¬ (1 : Int) < (y : Int) := by omega
          clear hM HM
          go_wp2_with fail
          go_ret2
          exact ⟨by rw [HR.out, HM2.out]; rfl, by first | rfl | trivial⟩
  · rw [if_pos h0] at hR
    have h0b : ((fanW b).2 == 0) = false := by simpa using h0
    obtain ⟨z, hz⟩ : ∃ z, z = (fanW b).2 := ⟨_, rfl⟩
    rw [← hz] at hR hfa h0b h0
    have HFa := hide hfa
    have HR := hide hR
    clear hfa hR hz
    go_enter Tryz.func21, Tryz.ntmps21
    go_wp2_with (go_at_call 19; refine (HFa.out _).mono ?_; rintro e w1 ⟨rfl, ew⟩; obtain rfl : w = w1 := ew.symm)
    go_ret2
    exact ⟨by rw [HR.out]; rfl, by first | rfl | trivial⟩
set_option maxHeartbeats 2000000 in
theorem rpasses_any (b files : Int) (w : World) (hb : I64 b) (hf : I64 files) : Calls Tryz.prog 22 #[.int .i64 b, .int .i64 files] w fun e w' => e = .returned (.tuple #[.int .i64 (passW b files).1, .int .i64 (passW b files).2]) ∧ w' = w := by
  have hfa := fun W => rfan_any b W hb
  obtain ⟨R, hR⟩ : ∃ R, R = passW b files := ⟨_, rfl⟩
  rw [← hR]
  unfold passW at hR
  obtain ⟨hf1, hf2⟩ := hf
  by_cases h0 : (fanW b).2 = 0
  · rw [if_neg (by rw [h0]; exact fun e => e rfl)] at hR
    have hfb : fanW b = (b - 6, 0) ∧ 24 ≤ b ∧ b ≤ 256 := by
      unfold fanW at h0 ⊢
      split at h0
      · cases h0
      · split at h0
        · cases h0
        · rename_i h1 h2
          rw [if_neg h1, if_neg h2]
          exact ⟨rfl, by omega, by omega⟩
    obtain ⟨hfb, hb24, hb256⟩ := hfb
    rw [hfb] at hfa
    obtain ⟨k, hk⟩ : ∃ k : Nat, (k : Int) = b - 6 := ⟨(b - 6).toNat, by omega⟩
    rw [← hk, Int.toNat_natCast] at hR
    dsimp only at hfa
    rw [← hk] at hfa
    have hk18 : 18 ≤ k := by omega
    have hk250 : k ≤ 250 := by omega
    have HFa := hide hfa
    clear hfa hfb h0 hk
    by_cases h1 : files < 0 ∨ 65536 < files
    · rw [if_pos h1] at hR
      have HR := hide hR
      clear hR
      by_cases g : files < 0
      · clear h1
        go_enter Tryz.func22, Tryz.ntmps22
        go_wp2_with (go_at_call 20; refine (HFa.out _).mono ?_; rintro e w1 ⟨rfl, ew⟩; obtain rfl : w = w1 := ew.symm)
        go_ret2
        exact ⟨by rw [HR.out]; rfl, by first | rfl | trivial⟩
      · have g2 : 65536 < files := by omega
        clear h1
        go_enter Tryz.func22, Tryz.ntmps22
        go_wp2_with (go_at_call 20; refine (HFa.out _).mono ?_; rintro e w1 ⟨rfl, ew⟩; obtain rfl : w = w1 := ew.symm)
        go_ret2
        exact ⟨by rw [HR.out]; rfl, by first | rfl | trivial⟩
    · rw [if_neg h1] at hR
      obtain ⟨x, rfl⟩ : ∃ x : Nat, files = (x : Int) := ⟨files.toNat, by omega⟩
      rw [Int.toNat_natCast] at hR
      have hx : x ≤ 65536 := by omega
      have g1 : ¬ (x : Int) < 0 := by omega
      have g2 : ¬ (65536 : Int) < (x : Int) := by omega
      obtain ⟨M, hM⟩ : ∃ M, M = passL k (x + 1) x 0 := ⟨_, rfl⟩
      rw [← hM] at hR
      have HM := hide hM
      have HR := hide hR
      clear hM hR h1 hf1 hf2
      go_enter Tryz.func22, Tryz.ntmps22
      go_upto_region 7 with (go_at_call 20; refine (HFa.out _).mono ?_; rintro e w1 ⟨rfl, ew⟩; obtain rfl : w = w1 := ew.symm)
      go_loopw [1, 8] (fun a c wr => ∃ y n f : Nat, a = .int .i64 y ∧ c = .int .i64 n ∧ y ≤ 65536 ∧ n + y ≤ 65536 ∧ y < f ∧ Hid (M = passL k f y n) ∧ wr = w) (fun a _ _ => (intOf a).toNat)
      case atStart => exact ⟨x, 0, x + 1, rfl, rfl, hx, by omega, by omega, HM, rfl⟩
      case round =>
        clear HM
        obtain ⟨y, n, f, rfl, rfl, hy, hny, hyf, HM, rfl⟩ := hrel
        by_cases hgo : 1 < y
        · obtain ⟨g, rfl, hst⟩ := passL_step (k := k) (n := n) hgo hyf
          have hless := pass_less (k := k) (by omega) hgo
          obtain ⟨z, hz⟩ : ∃ z, z = (y + k - 1) / k := ⟨_, rfl⟩
          have hzI : ((y : Int) + (k : Int) - 1) / (k : Int) = (z : Int) := by
            rw [hz, Int.natCast_ediv]
            congr 1
            omega
          rw [← hz] at hst hless
          have hM := HM.out
          rw [hst] at hM
          have HM2 := hide hM
          have hgoI : (1 : Int) < (y : Int) := by omega
          have HZ := hide hzI
          clear hst hM hz HM
          go_wp2_with fail
          exact ⟨⟨z, n + 1, g, by rw [HZ.out], v_int (by omega), by omega, by omega, by omega, HM2, by first | rfl | trivial⟩, by rw [HZ.out]; simp [intOf]; omega⟩
        · have hM := HM.out
          rw [passL_end hgo] at hM
          have HM2 := hide hM
          have hgoI : ¬ (1 : Int) < (y : Int) := by omega
          clear hM HM
          go_wp2_with fail
          go_ret2
          exact ⟨by rw [HR.out, HM2.out]; rfl, by first | rfl | trivial⟩
  · rw [if_pos h0] at hR
    have h0b : ((fanW b).2 == 0) = false := by simpa using h0
    obtain ⟨z, hz⟩ : ∃ z, z = (fanW b).2 := ⟨_, rfl⟩
    rw [← hz] at hR hfa h0b h0
    have HFa := hide hfa
    have HR := hide hR
    clear hfa hR hz
    go_enter Tryz.func22, Tryz.ntmps22
    go_wp2_with (go_at_call 20; refine (HFa.out _).mono ?_; rintro e w1 ⟨rfl, ew⟩; obtain rfl : w = w1 := ew.symm)
    go_ret2
    exact ⟨by rw [HR.out]; rfl, by first | rfl | trivial⟩
end Go.Proofs.YtmopegpkoedgbaaGreatDoor
/- A text as a list of bytes, plainly. -/
namespace Go.Proofs.YtmopegpkoedgbaaGreatDoor
open Go.RowKit

def bl (s : ByteArray) : List UInt8 := s.data.toList
def blB (l : List UInt8) : ByteArray := ⟨l.toArray⟩
end Go.Proofs.YtmopegpkoedgbaaGreatDoor
/- The law MergePasses: plain facts. -/
namespace Go.Proofs.YtmopegpkoedgbaaGreatDoor
open Go.RowKit

theorem passL_n (k : Nat) : ∀ f x n, passL k f x n = n + passL k f x 0
  | 0, x, n => by simp [passL]
  | f + 1, x, n => by
    rw [passL, passL]
    split
    · rw [passL_n k f _ (n + 1), passL_n k f _ (0 + 1)]; omega
    · simp
/-- As often as files are made fewer: enough, and not too often. -/
theorem passL_law (k : Nat) (hk : 2 ≤ k) : ∀ f x, x < f → x ≤ k ^ passL k f x 0 ∧ (passL k f x 0 ≠ 0 → k ^ (passL k f x 0 - 1) < x) ∧ (passL k f x 0 = 0 ↔ x ≤ 1)
  | 0, x, h => by omega
  | f + 1, x, h => by
    rw [passL]
    by_cases hx : 1 < x
    · rw [if_pos hx, passL_n]
      obtain ⟨y, hy⟩ : ∃ y, y = (x + k - 1) / k := ⟨_, rfl⟩
      have hl := pass_less hk hx
      rw [← hy] at hl ⊢
      obtain ⟨h1, h2, h3⟩ := passL_law k hk f y (by omega)
      have hd := Nat.div_add_mod (x + k - 1) k
      have hm := Nat.mod_lt (x + k - 1) (show 0 < k by omega)
      rw [← hy] at hd
      have lo : x ≤ k * y := by omega
      have hi : k * y < x + k := by omega
      refine ⟨?_, fun _ => ?_, ⟨fun e => by omega, fun e => by omega⟩⟩
      · rw [show 0 + 1 + passL k f y 0 = passL k f y 0 + 1 by omega, Nat.pow_succ, Nat.mul_comm]
        exact Nat.le_trans lo (Nat.mul_le_mul_left k h1)
      · rw [show 0 + 1 + passL k f y 0 - 1 = passL k f y 0 by omega]
        rcases Nat.eq_zero_or_pos (passL k f y 0) with e | e
        · rw [e]; simpa using hx
        · have g := h2 (by omega)
          obtain ⟨p, hp⟩ : ∃ p, passL k f y 0 = p + 1 := ⟨passL k f y 0 - 1, by omega⟩
          rw [hp] at g ⊢
          rw [Nat.add_sub_cancel] at g
          rw [Nat.pow_succ, Nat.mul_comm]
          have : k * (k ^ p + 1) ≤ k * y := Nat.mul_le_mul_left k g
          rw [Nat.mul_add] at this
          omega
    · rw [if_neg hx]
      refine ⟨?_, fun e => absurd rfl e, ⟨fun _ => by omega, fun _ => rfl⟩⟩
      simp; omega
end Go.Proofs.YtmopegpkoedgbaaGreatDoor
