/- Lemmas for the row: Base, BitsPlain, CrcPlain, StrL. -/
import Derived.Test.YtmbonieeapbpoaaGreatDoorRows
import Derived.BigQuiet
import Derived.Deep.AppendLies
import Derived.Deep.DeepCutAuto
import Derived.Deep.QuietTactic
import Derived.Deep.RegionHeld3
import Derived.Deep.RegionLaw
import Derived.Deep.RegionLawGrows
import Derived.Handy
import Derived.Lib.Hide
import Derived.Maps.AppendAt
import Derived.PlainAid
import Derived.WalkKit
import Derived.WalkLawsBesides
import Derived.WalkSpells
set_option linter.unusedVariables false
set_option linter.unusedSimpArgs false
/- Small words on memory for the walks of this seat: what a slice reads as (nil, empty or not), frames, ranges of integers. Plain lemmas, no program in sight but for the seat's imports. -/
namespace Go.Proofs.YtmbonieeapbpoaaGreatDoor
open Go.RowKit

/-- A fact kept from the walk. -/
theorem hide {p : Prop} (h : p) : Hid p := h

/-- An int's range. -/
def I64 (n : Int) : Prop := -9223372036854775808 ≤ n ∧ n ≤ 9223372036854775807
/-- A uint64's range. -/
def U64 (n : Int) : Prop := 0 ≤ n ∧ n ≤ 18446744073709551615

theorem ret_int {k : IntKind} {a b : Int} (h : a = b) : Ending.returned (.int k a) = .returned (.int k b) := by rw [h]
theorem v_int {k : IntKind} {a b : Int} (h : a = b) : Value.int k a = .int k b := by rw [h]
/-- The slice's cells from address A on read as xs (one cell an element), all in blocks below B. -/
def Rd (w : World) (B : Nat) (A : Option Addr) (xs : List Value) : Prop :=
  ∀ i u, xs[i]? = some u → ∃ b o, A = some ⟨b, o, none⟩ ∧ b < B ∧ w.cell? ⟨b, o + i, none⟩ = some u

section
variable {w w' : World} {B B' : Nat} {A : Option Addr} {xs : List Value}
theorem Rd.nil_ : Rd w B A [] := fun i u h => by simp at h
theorem Rd.keep (h : Rd w B A xs) (hk : ∀ p : Addr, p.block < B → w'.cell? p = w.cell? p) : Rd w' B A xs := fun i u hu => by
  obtain ⟨b, o, e, hb, hc⟩ := h i u hu
  exact ⟨b, o, e, hb, (hk ⟨b, o + i, none⟩ hb).trans hc⟩
theorem Rd.more (h : Rd w B A xs) (hB : B ≤ B') : Rd w B' A xs := fun i u hu => by
  obtain ⟨b, o, e, hb, hc⟩ := h i u hu
  exact ⟨b, o, e, Nat.lt_of_lt_of_le hb hB, hc⟩
theorem Rd.below (h : Rd w B A xs) (hb : Below B w w') : Rd w' B A xs := h.keep fun _ hp => hb.cell hp
theorem Rd.alloc (h : Rd w B A xs) (hB : B ≤ w.heap.size) (o : Obj) : Rd (w.alloc o) B A xs := h.keep fun p hp => World.cell?_alloc_lt w o p (by omega)
end


/-- The frame of a call that writes into some blocks (S) and makes new ones: all other old blocks are as they were. -/
structure Fr (S : Nat → Prop) (w w' : World) : Prop where
  os : w'.os = w.os
  tape : w'.tape = w.tape
  output : w'.output = w.output
  size : w.heap.size ≤ w'.heap.size
  block : ∀ k, k < w.heap.size → ¬ S k → w'.heap[k]? = w.heap[k]?

section
variable {w w' a b : World} {S T : Nat → Prop}
theorem Fr.refl (S : Nat → Prop) (w : World) : Fr S w w := ⟨rfl, rfl, rfl, Nat.le_refl _, fun _ _ _ => rfl⟩
/-- The second step may write what the first one may, and what is new. -/
theorem Fr.trans (h : Fr S a w) (k : Fr T w w') (hT : ∀ g, T g → S g ∨ a.heap.size ≤ g) : Fr S a w' :=
  ⟨k.os.trans h.os, k.tape.trans h.tape, k.output.trans h.output, Nat.le_trans h.size k.size, fun i hi hS =>
    (k.block i (Nat.lt_of_lt_of_le hi h.size) (fun ht => (hT i ht).elim hS (fun _ => by omega))).trans (h.block i hi hS)⟩
theorem Fr.mono (h : Fr S a w) (hS : ∀ g, S g → T g) : Fr T a w := ⟨h.os, h.tape, h.output, h.size, fun i hi ht => h.block i hi (fun hs => ht (hS i hs))⟩
theorem Fr.drew (h : Fr S a w) : Fr S a w.drew := ⟨h.os, h.tape, h.output, h.size, h.block⟩
theorem Fr.setCell (h : Fr S a w) {p : Addr} (hp : S p.block ∨ a.heap.size ≤ p.block) (u : Value) : Fr S a (w.setCell p u) :=
  ⟨h.os, h.tape, h.output, by simpa [World.setCell] using h.size, fun i hi hS => (Below.heap_setCell w p u i (by
    rintro rfl
    rcases hp with hp | hp
    · exact hS hp
    · omega)).trans (h.block i hi hS)⟩
theorem Fr.below (h : Below w.heap.size w w') (S : Nat → Prop) : Fr S w w' := ⟨h.os, h.tape, h.output, h.size, fun i hi _ => h.block i hi⟩
theorem Fr.grown {row : Option Nat} (h : w.grownBy w' row) (hS : ∀ g, row = some g → S g) : Fr S w w' :=
  ⟨h.os, h.tape, h.output, h.size, fun i hi hn => h.block i hi (fun e => hn (hS i e.symm))⟩
theorem Fr.toBelowB {B : Nat} (h : Fr S w w') (hS : ∀ g, S g → B ≤ g) (hB : B ≤ w.heap.size) : Below B w w' :=
  ⟨h.os, h.tape, h.output, h.size, fun k hk => h.block k (by omega) (fun hs => by have := hS k hs; omega)⟩
theorem Fr.cell (h : Fr S w w') {p : Addr} {v : Value} (hp : ¬ S p.block) (hc : w.cell? p = some v) : w'.cell? p = some v :=
  (World.cell?_of_block (h.block p.block (World.block_lt_of_cell? w p hc) hp)).trans hc
theorem Rd.fr {B : Nat} {A : Option Addr} {xs : List Value} (h : Rd w B A xs) (hf : Fr S w w') (hS : ∀ g, g < B → ¬ S g) : Rd w' B A xs := fun i u hu => by
  obtain ⟨b, o, e, hb, hc⟩ := h i u hu
  exact ⟨b, o, e, hb, hf.cell (hS b hb) hc⟩
end

/-- Block g is just these cells, none frozen. -/
def Bk (w : World) (g : Nat) (t : TypeId) (cs : Array Value) : Prop := w.heap[g]? = some (.cells cs t (0, 0))
section
variable {w w' : World} {g : Nat} {t : TypeId} {cs : Array Value} {S : Nat → Prop}
theorem Bk.lt (h : Bk w g t cs) : g < w.heap.size := (Array.getElem?_eq_some_iff.1 h).1
theorem Bk.cell (h : Bk w g t cs) (i : Nat) : w.cell? ⟨g, i, none⟩ = cs[i]? := cell_of_row w g i cs t (0, 0) h
theorem Bk.free (h : Bk w g t cs) (i : Nat) : w.frozen? ⟨g, i, none⟩ = false := by
  unfold Bk at h
  simp [World.frozen?, h]
theorem Bk.new (w : World) (t : TypeId) (cs : Array Value) : Bk (w.alloc (.cells cs t)) w.heap.size t cs := heap_alloc_new w _
theorem Bk.drew (h : Bk w g t cs) : Bk w.drew g t cs := h
theorem Bk.alloc (h : Bk w g t cs) (o : Obj) : Bk (w.alloc o) g t cs := (Below.heap_alloc w o g h.lt).trans h
theorem Bk.set_ (h : Bk w g t cs) (i : Nat) (u : Value) : Bk (w.setCell ⟨g, i, none⟩ u) g t (cs.setIfInBounds i u) := by
  unfold Bk at h ⊢
  simp [World.setCell, Array.getElem?_modify, h]
theorem Bk.far (h : Bk w g t cs) {p : Addr} (hp : g ≠ p.block) (u : Value) : Bk (w.setCell p u) g t cs := (Below.heap_setCell w p u g hp).trans h
theorem Bk.below {B : Nat} (h : Bk w g t cs) (hb : Below B w w') (hg : g < B) : Bk w' g t cs := (hb.block g hg).trans h
theorem Bk.fr (h : Bk w g t cs) (hf : Fr S w w') (hg : ¬ S g) : Bk w' g t cs := (hf.block g h.lt hg).trans h
theorem Bk.grown {row : Option Nat} (h : Bk w g t cs) (hb : w.grownBy w' row) (hg : some g ≠ row) : Bk w' g t cs := (hb.block g h.lt hg).trans h
/-- Two blocks of two types are two. -/
theorem Bk.ne_ {g' : Nat} {t' : TypeId} {cs' : Array Value} (h : Bk w g t cs) (h' : Bk w g' t' cs') (hne : t ≠ t') : g ≠ g' := by
  rintro rfl
  unfold Bk at h h'
  rw [h] at h'
  simp only [Option.some.injEq, Obj.cells.injEq] at h'
  exact hne h'.2.1
theorem own_ne {base : Nat} {e : TypeId} {size n : Nat} {v : Value} {xs : List Value} (h : w.ownsRow base e size v n xs) (hg : Bk w g t cs) (hne : e ≠ t) : some g ≠ v.ownBlock := by
  rcases h.2 with ⟨rfl, _⟩ | ⟨g', cap, cur, rfl, _, hh, _⟩
  · simp [Value.ownBlock]
  · intro he
    have : g = g' := by simpa [Value.ownBlock] using he
    exact Bk.ne_ (t := e) hh hg hne this.symm
theorem own_base {base base' e size n : Nat} {v : Value} {xs : List Value} (h : w.ownsRow base e size v n xs) (hB : ∀ g, v.ownBlock = some g → base' ≤ g) : w.ownsRow base' e size v n xs := by
  refine ⟨h.1, h.2.imp id ?_⟩
  rintro ⟨g, cap, cur, rfl, _, c⟩
  exact ⟨g, cap, cur, rfl, hB g rfl, c⟩
theorem own_fr {base e size n : Nat} {v : Value} {xs : List Value} (h : w.ownsRow base e size v n xs) (hf : Fr S w w') (hS : ∀ g, v.ownBlock = some g → ¬ S g) : w'.ownsRow base e size v n xs := by
  refine ⟨h.1, h.2.imp id ?_⟩
  rintro ⟨g, cap, cur, rfl, hb, hg, r⟩
  exact ⟨g, cap, cur, rfl, hb, (hf.block g (Array.getElem?_eq_some_iff.1 hg).1 (hS g rfl)).trans hg, r⟩
theorem own_set {base e size n : Nat} {v : Value} {xs : List Value} (h : w.ownsRow base e size v n xs) {p : Addr} (hp : v.ownBlock ≠ some p.block) (u : Value) : (w.setCell p u).ownsRow base e size v n xs := by
  refine ⟨h.1, h.2.imp id ?_⟩
  rintro ⟨g, cap, cur, rfl, hb, hg, r⟩
  exact ⟨g, cap, cur, rfl, hb, (Below.heap_setCell w p u g (fun e => hp (by subst e; rfl))).trans hg, r⟩
theorem own_lt {base e size n : Nat} {v : Value} {xs : List Value} (h : w.ownsRow base e size v n xs) : ∀ g, v.ownBlock = some g → g < w.heap.size := fun g hg => (h.lt g hg).2
end

theorem Bk.keep {w w' : World} {g : Nat} {t : TypeId} {cs : Array Value} (h : Bk w g t cs) (hb : Below w.heap.size w w') : Bk w' g t cs := h.below hb h.lt
theorem Bk.new1 (w : World) (X : Obj) (t : TypeId) (cs : Array Value) : Bk ((w.alloc X).alloc (.cells cs t)) (w.heap.size + 1) t cs := by
  have := Bk.new (w.alloc X) t cs
  rwa [show (w.alloc X).heap.size = w.heap.size + 1 by simp] at this
theorem Bk.new2 (w : World) (X Y : Obj) (t : TypeId) (cs : Array Value) : Bk (((w.alloc X).alloc Y).alloc (.cells cs t)) (w.heap.size + 1 + 1) t cs := by
  have := Bk.new1 (w.alloc X) Y t cs
  rwa [show (w.alloc X).heap.size = w.heap.size + 1 by simp] at this
/-- A struct of two cells, as a result. -/
theorem two_cells {w : World} {g : Nat} {t : TypeId} {a b : Value} (h : Bk w g t #[a, b]) : w.cell? ⟨g, 0, none⟩ = some a ∧ w.cell? ⟨g, 1, none⟩ = some b := ⟨h.cell 0, h.cell 1⟩

end Go.Proofs.YtmbonieeapbpoaaGreatDoor
/- Bits, plainly: a byte text and a number of bits as a list of Bools; right ones; two right ones of the same bits are one. No program in sight. -/
namespace Go.Proofs.YtmbonieeapbpoaaGreatDoor
open Go.RowKit

/-- Byte k of a text, as a number; behind its end 0. -/
def byt (s : ByteArray) (k : Nat) : Nat := if h : k < s.size then (s[k]'h).toNat else 0
theorem byt_of (s : ByteArray) {k : Nat} (h : k < s.size) : (s[k]'h).toNat = byt s k := by unfold byt; rw [dif_pos h]
theorem byt_lt (s : ByteArray) (k : Nat) : byt s k < 256 := by
  unfold byt; split
  · exact UInt8.toNat_lt _
  · omega
theorem byt_ext {s t : ByteArray} (hs : s.size = t.size) (h : ∀ k, k < s.size → byt s k = byt t k) : s = t := by
  apply ByteArray.ext
  apply Array.ext
  · exact hs
  · intro i h1 h2
    have := h i h1
    rw [← byt_of s h1, ← byt_of t h2] at this
    exact UInt8.toNat_inj.1 this

/-- A list of bytes as a text, and as values. -/
def strOf (l : List Nat) : ByteArray := ⟨(l.map UInt8.ofNat).toArray⟩
def vby (l : List Nat) : List Value := l.map fun b => .int .u8 (b : Nat)
@[simp] theorem vby_length (l : List Nat) : (vby l).length = l.length := by simp [vby]
theorem strOf_size (l : List Nat) : (strOf l).size = l.length := by simp [strOf, ByteArray.size]
theorem strOf_byt (l : List Nat) (h : ∀ b ∈ l, b < 256) (k : Nat) : byt (strOf l) k = l.getD k 0 := by
  by_cases hk : k < l.length
  · rw [← byt_of _ (by rw [strOf_size]; exact hk)]
    have : (strOf l)[k]'(by rw [strOf_size]; exact hk) = UInt8.ofNat l[k] := by
      show (strOf l).data[k]'_ = _
      simp [strOf]
    rw [this]
    simp [hk]
    exact h _ (List.getElem_mem hk)
  · unfold byt; rw [dif_neg (by rw [strOf_size]; exact hk)]; simp [List.getD, List.getElem?_eq_none (Nat.le_of_not_lt hk)]
/-- Bytes that lie in memory, made a text. -/
theorem run_conv (P : Program) (w : World) (src e : TypeId) (hs : P.underlying src = some (.slice e)) (he : P.underlying e = some (.int .u8)) (dst : TypeId) (hd : P.underlying dst = some .string)
    {B : Nat} {A : Option Addr} {l : List Nat} (h : Rd w B A (vby l)) (c : Nat) : (convert src dst (.slice A l.length c)).run P w = .ok (.string (strOf l)) w := by
  cases A with
  | none =>
    have hl : l = [] := by
      cases l with
      | nil => rfl
      | cons x l => obtain ⟨b, o, hA, _⟩ := h 0 (.int .u8 (x : Nat)) (by simp [vby]); cases hA
    subst hl
    exact run_convert_bytes_nil w src e hs he _ c dst hd
  | some ad =>
    have hload : (loadCells ad l.length).run P w = .ok ((l.map fun b => ((b : Nat) : Int)).map (Value.int .u8)).toArray w := by
      have := run_loadCells_list (P := P) w ad (vby l) (fun j v hj => by
        obtain ⟨b, o, hA, _, hc⟩ := h j v hj
        cases hA
        rw [Addr.add_lit]; exact hc)
      rw [vby_length] at this
      rw [List.map_map]; simpa [vby, Function.comp_def] using this
    rw [run_convert_bytes_string w src dst e _ _ c hs he hd, run_bytesToString w ad _ c _ hload, foldl_push_bytes]
    simp [strOf, ByteArray.empty, ByteArray.emptyWithCapacity]
    show [] ++ _ = _
    simp [Function.comp_def]
end Go.Proofs.YtmbonieeapbpoaaGreatDoor
/- Check sums, plainly: a register of 32 bits, bit by bit. No program in sight. -/
namespace Go.Proofs.YtmbonieeapbpoaaGreatDoor
open Go.RowKit

def crcP : Nat := 3988292384
/-- One bit. -/
def f1 (r : Nat) : Nat := r / 2 ^^^ (if r % 2 = 1 then crcP else 0)
def fN : Nat → Nat → Nat
  | 0, r => r
  | k + 1, r => fN k (f1 r)
/-- A byte. -/
def crcB (r c : Nat) : Nat := fN 8 (r ^^^ c)
theorem xor_half (a b : Nat) : (a ^^^ b) / 2 = a / 2 ^^^ b / 2 := by
  apply Nat.eq_of_testBit_eq
  intro i
  rw [Nat.testBit_xor, Nat.testBit_div_two, Nat.testBit_div_two, Nat.testBit_div_two, Nat.testBit_xor]
theorem xor_odd (a b : Nat) : (a ^^^ b) % 2 = if a % 2 = b % 2 then 0 else 1 := by
  have h := Nat.testBit_xor a b 0
  simp only [Nat.testBit_zero] at h
  have ha := Nat.mod_two_eq_zero_or_one a
  have hb := Nat.mod_two_eq_zero_or_one b
  have hx := Nat.mod_two_eq_zero_or_one (a ^^^ b)
  rcases ha with ha | ha <;> rcases hb with hb | hb <;> rcases hx with hx | hx <;> simp [ha, hb, hx] at h ⊢
theorem xor_four (a b c d : Nat) : (a ^^^ b) ^^^ (c ^^^ d) = (a ^^^ c) ^^^ (b ^^^ d) := by
  rw [Nat.xor_assoc, Nat.xor_assoc, ← Nat.xor_assoc b, Nat.xor_comm b c, Nat.xor_assoc c]
theorem f1_xor (a b : Nat) : f1 (a ^^^ b) = f1 a ^^^ f1 b := by
  unfold f1
  rw [xor_half, xor_odd, xor_four]
  congr 1
  rcases Nat.mod_two_eq_zero_or_one a with ha | ha <;> rcases Nat.mod_two_eq_zero_or_one b with hb | hb <;> simp [ha, hb]
theorem fN_xor (k a b : Nat) : fN k (a ^^^ b) = fN k a ^^^ fN k b := by
  induction k generalizing a b with
  | zero => rfl
  | succ k ih => rw [fN, f1_xor, ih, fN, fN]
theorem fN_succ (k r : Nat) : fN (k + 1) r = f1 (fN k r) := by
  induction k generalizing r with
  | zero => rfl
  | succ k ih => rw [fN, ih, fN]
theorem f1_even (m : Nat) : f1 (2 * m) = m := by
  unfold f1
  rw [Nat.mul_mod_right, if_neg (by decide), Nat.xor_zero, Nat.mul_div_cancel_left _ (by decide)]
theorem fN_shift (k m : Nat) : fN k (2 ^ k * m) = m := by
  induction k generalizing m with
  | zero => simp [fN]
  | succ k ih => rw [fN, show 2 ^ (k + 1) * m = 2 * (2 ^ k * m) by rw [Nat.pow_succ]; simp [Nat.mul_comm, Nat.mul_left_comm], f1_even, ih]
theorem f1_lt {r : Nat} (h : r < 4294967296) : f1 r < 4294967296 := by
  unfold f1
  have h1 : r / 2 < 2 ^ 32 := by omega
  have h2 : (if r % 2 = 1 then crcP else 0) < 2 ^ 32 := by split <;> decide
  exact Nat.xor_lt_two_pow h1 h2
theorem fN_lt {r : Nat} (h : r < 4294967296) (k : Nat) : fN k r < 4294967296 := by
  induction k generalizing r with
  | zero => exact h
  | succ k ih => exact ih (f1_lt h)
theorem xor_lt32 {a b : Nat} (ha : a < 4294967296) (hb : b < 4294967296) : a ^^^ b < 4294967296 := Nat.xor_lt_two_pow (n := 32) ha hb
theorem crcB_lt {r c : Nat} (h : r < 4294967296) (hc : c < 256) : crcB r c < 4294967296 := fN_lt (xor_lt32 h (by omega)) 8
theorem split8 (x : Nat) : x = 256 * (x / 256) ^^^ x % 256 := by
  apply Nat.eq_of_testBit_eq
  intro i
  rw [Nat.testBit_xor, show 256 * (x / 256) = 2 ^ 8 * (x / 256) from rfl, Nat.testBit_two_pow_mul, show x % 256 = x % 2 ^ 8 from rfl, Nat.testBit_mod_two_pow, show x / 256 = x / 2 ^ 8 from rfl, Nat.testBit_div_two_pow]
  by_cases h : i < 8
  · simp [h, Nat.not_le.2 h]
  · have h' : 8 ≤ i := by omega
    simp [h, h', Nat.sub_add_cancel h']
theorem xor_hi {r c : Nat} (hc : c < 256) : (r ^^^ c) / 256 = r / 256 := by
  apply Nat.eq_of_testBit_eq
  intro i
  rw [show (r ^^^ c) / 256 = (r ^^^ c) / 2 ^ 8 from rfl, show r / 256 = r / 2 ^ 8 from rfl, Nat.testBit_div_two_pow, Nat.testBit_div_two_pow, Nat.testBit_xor, Nat.testBit_lt_two_pow (x := c) (i := i + 8) (by
    have : 2 ^ 8 ≤ 2 ^ (i + 8) := Nat.pow_le_pow_right (by decide) (by omega)
    omega)]
  simp
/-- A byte, as the program does it. -/
theorem crcB_table {r c : Nat} (hc : c < 256) : r / 256 ^^^ fN 8 ((r ^^^ c) % 256) = crcB r c := by
  unfold crcB
  conv => rhs; rw [split8 (r ^^^ c), fN_xor, show 256 * ((r ^^^ c) / 256) = 2 ^ 8 * ((r ^^^ c) / 256) from rfl, fN_shift, xor_hi hc]
/-- A bit, as the document does it. -/
def g1 (r d : Nat) : Nat := r / 2 ^^^ (if (r ^^^ d) % 2 = 1 then crcP else 0)
/-- The register behind bytes. -/
def crcR (r : Nat) (l : List Nat) : Nat := l.foldl crcB r
theorem crcR_lt {l : List Nat} (hl : ∀ x ∈ l, x < 256) : ∀ {r : Nat}, r < 4294967296 → crcR r l < 4294967296 := by
  unfold crcR
  induction l with
  | nil => intro r h; exact h
  | cons c l ih => intro r h; exact ih (fun x hx => hl x (List.mem_cons_of_mem _ hx)) (crcB_lt h (hl c (by simp)))
theorem crcR_snoc (r : Nat) (l : List Nat) (c : Nat) : crcR r (l ++ [c]) = crcB (crcR r l) c := by unfold crcR; rw [List.foldl_append]; rfl
/-- A sum that goes on. -/
def crcM (sum : Nat) (l : List Nat) : Nat := 4294967295 - crcR (4294967295 - sum) l
def crcS (l : List Nat) : Nat := crcM 0 l
theorem crcS_lt (l : List Nat) : crcS l < 4294967296 := by unfold crcS crcM; omega
/-- The four bytes of a sum, the lowest one first. -/
def tail4 (n : Nat) : List Nat := [n % 256, n / 256 % 256, n / 65536 % 256, n / 16777216 % 256]
end Go.Proofs.YtmbonieeapbpoaaGreatDoor
/- A text as a list of its bytes; a number's bytes; plainly. No program in sight. -/
namespace Go.Proofs.YtmbonieeapbpoaaGreatDoor
open Go.RowKit

def strL (s : ByteArray) : List Nat := (List.range s.size).map (byt s)
@[simp] theorem strL_length (s : ByteArray) : (strL s).length = s.size := by simp [strL]
theorem strL_get {s : ByteArray} {k : Nat} (h : k < s.size) : (strL s)[k]? = some (byt s k) := by simp [strL, h]
theorem strL_lt (s : ByteArray) : ∀ x ∈ strL s, x < 256 := fun x hx => by
  obtain ⟨k, _, rfl⟩ := List.mem_map.1 hx
  exact byt_lt s k
theorem strL_inj {s t : ByteArray} (h : strL s = strL t) : s = t := by
  have hs : s.size = t.size := by rw [← strL_length s, h, strL_length]
  refine byt_ext hs fun k hk => ?_
  have h1 := strL_get hk
  rw [h, strL_get (by omega)] at h1
  exact (Option.some.inj h1).symm
theorem strL_of {l : List Nat} (h : ∀ x ∈ l, x < 256) : strL (strOf l) = l := by
  apply List.ext_getElem?
  intro k
  rcases Nat.lt_or_ge k l.length with g | g
  · rw [strL_get (by rw [strOf_size]; exact g), strOf_byt l h, List.getD_eq_getElem?_getD, List.getElem?_eq_getElem g]; rfl
  · rw [List.getElem?_eq_none (by rw [strL_length, strOf_size]; exact g), List.getElem?_eq_none g]
theorem strOf_strL (s : ByteArray) : strOf (strL s) = s := strL_inj (strL_of (strL_lt s))
theorem strL_take {s : ByteArray} {k : Nat} (h : k < s.size) : (strL s).take (k + 1) = (strL s).take k ++ [byt s k] := by rw [List.take_add_one, strL_get h]; rfl
/-- A number's five bytes, the highest first. -/
def five (n : Nat) : List Nat := [n / 4294967296 % 256, n / 16777216 % 256, n / 65536 % 256, n / 256 % 256, n % 256]
def ofB (l : List Nat) : Nat := l.foldl (fun n c => 256 * n + c) 0
theorem ofB_snoc (l : List Nat) (c : Nat) : ofB (l ++ [c]) = 256 * ofB l + c := by unfold ofB; rw [List.foldl_append]; rfl
theorem tail4_lt (n : Nat) : ∀ x ∈ tail4 n, x < 256 := by intro x hx; simp [tail4] at hx; omega
end Go.Proofs.YtmbonieeapbpoaaGreatDoor
