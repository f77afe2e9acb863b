/- Lemmas for the row: CrcPlain, StrL, PackA, CodesPlain, Cost, ZeroPlain, MtfPlain, TabC2, EndsPlain, DoublePlain, EndsBack. -/
import Derived.Test.YtcfnjpokfodmoaaGreatDoorM01
set_option linter.unusedVariables false
/- Check sums, plainly: a register of 32 bits, bit by bit. No program in sight. -/
namespace Go.Proofs.YtcfnjpokfodmoaaGreatDoor
open Go.RowKit

def crcP : Nat := 3988292384
/-- One bit. -/
def f1 (r : Nat) : Nat := r / 2 ^^^ (if r % 2 = 1 then crcP else 0)
def fN : Nat → Nat → Nat
  | 0, r => r
  | k + 1, r => fN k (f1 r)
/-- A byte. -/
def crcB (r c : Nat) : Nat := fN 8 (r ^^^ c)
theorem xor_half (a b : Nat) : (a ^^^ b) / 2 = a / 2 ^^^ b / 2 := by
  apply Nat.eq_of_testBit_eq
  intro i
  rw [Nat.testBit_xor, Nat.testBit_div_two, Nat.testBit_div_two, Nat.testBit_div_two, Nat.testBit_xor]
theorem xor_odd (a b : Nat) : (a ^^^ b) % 2 = if a % 2 = b % 2 then 0 else 1 := by
  have h := Nat.testBit_xor a b 0
  simp only [Nat.testBit_zero] at h
  have ha := Nat.mod_two_eq_zero_or_one a
  have hb := Nat.mod_two_eq_zero_or_one b
  have hx := Nat.mod_two_eq_zero_or_one (a ^^^ b)
  rcases ha with ha | ha <;> rcases hb with hb | hb <;> rcases hx with hx | hx <;> simp [ha, hb, hx] at h ⊢
theorem xor_four (a b c d : Nat) : (a ^^^ b) ^^^ (c ^^^ d) = (a ^^^ c) ^^^ (b ^^^ d) := by
  rw [Nat.xor_assoc, Nat.xor_assoc, ← Nat.xor_assoc b, Nat.xor_comm b c, Nat.xor_assoc c]
theorem f1_xor (a b : Nat) : f1 (a ^^^ b) = f1 a ^^^ f1 b := by
  unfold f1
  rw [xor_half, xor_odd, xor_four]
  congr 1
  rcases Nat.mod_two_eq_zero_or_one a with ha | ha <;> rcases Nat.mod_two_eq_zero_or_one b with hb | hb <;> simp [ha, hb]
theorem fN_xor (k a b : Nat) : fN k (a ^^^ b) = fN k a ^^^ fN k b := by
  induction k generalizing a b with
  | zero => rfl
  | succ k ih => rw [fN, f1_xor, ih, fN, fN]
theorem fN_succ (k r : Nat) : fN (k + 1) r = f1 (fN k r) := by
  induction k generalizing r with
  | zero => rfl
  | succ k ih => rw [fN, ih, fN]
theorem f1_even (m : Nat) : f1 (2 * m) = m := by
  unfold f1
  rw [Nat.mul_mod_right, if_neg (by decide), Nat.xor_zero, Nat.mul_div_cancel_left _ (by decide)]
theorem fN_shift (k m : Nat) : fN k (2 ^ k * m) = m := by
  induction k generalizing m with
  | zero => simp [fN]
  | succ k ih => rw [fN, show 2 ^ (k + 1) * m = 2 * (2 ^ k * m) by rw [Nat.pow_succ]; simp [Nat.mul_comm, Nat.mul_left_comm], f1_even, ih]
theorem f1_lt {r : Nat} (h : r < 4294967296) : f1 r < 4294967296 := by
  unfold f1
  have h1 : r / 2 < 2 ^ 32 := by omega
  have h2 : (if r % 2 = 1 then crcP else 0) < 2 ^ 32 := by split <;> decide
  exact Nat.xor_lt_two_pow h1 h2
theorem fN_lt {r : Nat} (h : r < 4294967296) (k : Nat) : fN k r < 4294967296 := by
  induction k generalizing r with
  | zero => exact h
  | succ k ih => exact ih (f1_lt h)
theorem xor_lt32 {a b : Nat} (ha : a < 4294967296) (hb : b < 4294967296) : a ^^^ b < 4294967296 := Nat.xor_lt_two_pow (n := 32) ha hb
theorem crcB_lt {r c : Nat} (h : r < 4294967296) (hc : c < 256) : crcB r c < 4294967296 := fN_lt (xor_lt32 h (by omega)) 8
theorem split8 (x : Nat) : x = 256 * (x / 256) ^^^ x % 256 := by
  apply Nat.eq_of_testBit_eq
  intro i
  rw [Nat.testBit_xor, show 256 * (x / 256) = 2 ^ 8 * (x / 256) from rfl, Nat.testBit_two_pow_mul, show x % 256 = x % 2 ^ 8 from rfl, Nat.testBit_mod_two_pow, show x / 256 = x / 2 ^ 8 from rfl, Nat.testBit_div_two_pow]
  by_cases h : i < 8
  · simp [h, Nat.not_le.2 h]
  · have h' : 8 ≤ i := by omega
    simp [h, h', Nat.sub_add_cancel h']
theorem xor_hi {r c : Nat} (hc : c < 256) : (r ^^^ c) / 256 = r / 256 := by
  apply Nat.eq_of_testBit_eq
  intro i
  rw [show (r ^^^ c) / 256 = (r ^^^ c) / 2 ^ 8 from rfl, show r / 256 = r / 2 ^ 8 from rfl, Nat.testBit_div_two_pow, Nat.testBit_div_two_pow, Nat.testBit_xor, Nat.testBit_lt_two_pow (x := c) (i := i + 8) (by
    have : 2 ^ 8 ≤ 2 ^ (i + 8) := Nat.pow_le_pow_right (by decide) (by omega)
    omega)]
  simp
/-- A byte, as the program does it. -/
theorem crcB_table {r c : Nat} (hc : c < 256) : r / 256 ^^^ fN 8 ((r ^^^ c) % 256) = crcB r c := by
  unfold crcB
  conv => rhs; rw [split8 (r ^^^ c), fN_xor, show 256 * ((r ^^^ c) / 256) = 2 ^ 8 * ((r ^^^ c) / 256) from rfl, fN_shift, xor_hi hc]
/-- The register behind bytes. -/
def crcR (r : Nat) (l : List Nat) : Nat := l.foldl crcB r
theorem crcR_lt {l : List Nat} (hl : ∀ x ∈ l, x < 256) : ∀ {r : Nat}, r < 4294967296 → crcR r l < 4294967296 := by
  unfold crcR
  induction l with
  | nil => intro r h; exact h
  | cons c l ih => intro r h; exact ih (fun x hx => hl x (List.mem_cons_of_mem _ hx)) (crcB_lt h (hl c (by simp)))
theorem crcR_snoc (r : Nat) (l : List Nat) (c : Nat) : crcR r (l ++ [c]) = crcB (crcR r l) c := by unfold crcR; rw [List.foldl_append]; rfl
/-- A sum that goes on. -/
def crcM (sum : Nat) (l : List Nat) : Nat := 4294967295 - crcR (4294967295 - sum) l
def crcS (l : List Nat) : Nat := crcM 0 l
theorem crcS_lt (l : List Nat) : crcS l < 4294967296 := by unfold crcS crcM; omega
theorem xor_right {a b c : Nat} (h : a ^^^ c = b ^^^ c) : a = b := by
  have := congrArg (fun x => x ^^^ c) h
  simpa [Nat.xor_assoc] using this
theorem xor_left {a b c : Nat} (h : c ^^^ a = c ^^^ b) : a = b := by
  rw [Nat.xor_comm c, Nat.xor_comm c] at h
  exact xor_right h
theorem f1_inj {a b : Nat} (ha : a < 4294967296) (hb : b < 4294967296) (h : f1 a = f1 b) : a = b := by
  have hbit : ∀ x, x < 4294967296 → (f1 x).testBit 31 = decide (x % 2 = 1) := by
    intro x hx
    unfold f1
    rw [Nat.testBit_xor, Nat.testBit_lt_two_pow (x := x / 2) (i := 31) (by omega)]
    rcases Nat.mod_two_eq_zero_or_one x with h | h
    · rw [if_neg (by omega)]; simp [h]
    · rw [if_pos h]; simp only [h]; decide
  have h1 := hbit a ha
  rw [h, hbit b hb] at h1
  have hp : a % 2 = b % 2 := by
    rcases Nat.mod_two_eq_zero_or_one a with e | e <;> rcases Nat.mod_two_eq_zero_or_one b with e2 | e2 <;> simp [e, e2] at h1 ⊢
  have h2 : a / 2 = b / 2 := by
    unfold f1 at h
    rw [hp] at h
    exact xor_right h
  omega
theorem fN_inj {k : Nat} : ∀ {a b : Nat}, a < 4294967296 → b < 4294967296 → fN k a = fN k b → a = b := by
  induction k with
  | zero => intro a b _ _ h; exact h
  | succ k ih => intro a b ha hb h; exact f1_inj ha hb (ih (f1_lt ha) (f1_lt hb) h)
theorem crcB_injR {r s c : Nat} (hr : r < 4294967296) (hs : s < 4294967296) (hc : c < 256) (h : crcB r c = crcB s c) : r = s :=
  xor_right (fN_inj (xor_lt32 hr (by omega)) (xor_lt32 hs (by omega)) h)
theorem crcB_injC {r c d : Nat} (hr : r < 4294967296) (hc : c < 256) (hd : d < 256) (h : crcB r c = crcB r d) : c = d :=
  xor_left (fN_inj (xor_lt32 hr (by omega)) (xor_lt32 hr (by omega)) h)
theorem crcR_inj {l : List Nat} (hl : ∀ x ∈ l, x < 256) : ∀ {r s : Nat}, r < 4294967296 → s < 4294967296 → crcR r l = crcR s l → r = s := by
  unfold crcR
  induction l with
  | nil => intro r s _ _ h; exact h
  | cons c l ih =>
    intro r s hr hs h
    have hc := hl c (by simp)
    exact crcB_injR hr hs hc (ih (fun x hx => hl x (List.mem_cons_of_mem _ hx)) (crcB_lt hr hc) (crcB_lt hs hc) h)
/-- With one byte another the sum is another. -/
theorem crcS_turned {a b : List Nat} {c d : Nat} (ha : ∀ x ∈ a, x < 256) (hb : ∀ x ∈ b, x < 256) (hc : c < 256) (hd : d < 256) (hne : c ≠ d) : crcS (a ++ c :: b) ≠ crcS (a ++ d :: b) := by
  intro h
  have h0 : crcR 4294967295 a < 4294967296 := crcR_lt ha (by omega)
  have e : ∀ x, crcR 4294967295 (a ++ x :: b) = crcR (crcB (crcR 4294967295 a) x) b := fun x => by unfold crcR; rw [List.foldl_append]; rfl
  unfold crcS crcM at h
  rw [Nat.sub_zero, e, e] at h
  have h1 : crcR (crcB (crcR 4294967295 a) c) b < 4294967296 := crcR_lt hb (crcB_lt h0 hc)
  have h2 : crcR (crcB (crcR 4294967295 a) d) b < 4294967296 := crcR_lt hb (crcB_lt h0 hd)
  exact hne (crcB_injC h0 hc hd (crcR_inj hb (crcB_lt h0 hc) (crcB_lt h0 hd) (by omega)))
/-- The four bytes of a sum, the lowest one first. -/
def tail4 (n : Nat) : List Nat := [n % 256, n / 256 % 256, n / 65536 % 256, n / 16777216 % 256]
theorem tail4_inj {a b : Nat} (ha : a < 4294967296) (hb : b < 4294967296) (h : tail4 a = tail4 b) : a = b := by
  simp only [tail4, List.cons.injEq, and_true] at h
  omega
end Go.Proofs.YtcfnjpokfodmoaaGreatDoor
/- A text as a list of its bytes; a number's bytes; plainly. No program in sight. -/
namespace Go.Proofs.YtcfnjpokfodmoaaGreatDoor
open Go.RowKit

def strL (s : ByteArray) : List Nat := (List.range s.size).map (byt s)
@[simp] theorem strL_length (s : ByteArray) : (strL s).length = s.size := by simp [strL]
theorem strL_get {s : ByteArray} {k : Nat} (h : k < s.size) : (strL s)[k]? = some (byt s k) := by simp [strL, h]
theorem strL_lt (s : ByteArray) : ∀ x ∈ strL s, x < 256 := fun x hx => by
  obtain ⟨k, _, rfl⟩ := List.mem_map.1 hx
  exact byt_lt s k
theorem strL_inj {s t : ByteArray} (h : strL s = strL t) : s = t := by
  have hs : s.size = t.size := by rw [← strL_length s, h, strL_length]
  refine byt_ext hs fun k hk => ?_
  have h1 := strL_get hk
  rw [h, strL_get (by omega)] at h1
  exact (Option.some.inj h1).symm
theorem strL_of {l : List Nat} (h : ∀ x ∈ l, x < 256) : strL (strOf l) = l := by
  apply List.ext_getElem?
  intro k
  rcases Nat.lt_or_ge k l.length with g | g
  · rw [strL_get (by rw [strOf_size]; exact g), strOf_byt l h, List.getD_eq_getElem?_getD, List.getElem?_eq_getElem g]; rfl
  · rw [List.getElem?_eq_none (by rw [strL_length, strOf_size]; exact g), List.getElem?_eq_none g]
theorem strOf_strL (s : ByteArray) : strOf (strL s) = s := strL_inj (strL_of (strL_lt s))
theorem strL_take {s : ByteArray} {k : Nat} (h : k < s.size) : (strL s).take (k + 1) = (strL s).take k ++ [byt s k] := by rw [List.take_add_one, strL_get h]; rfl
/-- A number's five bytes, the highest first. -/
def five (n : Nat) : List Nat := [n / 4294967296 % 256, n / 16777216 % 256, n / 65536 % 256, n / 256 % 256, n % 256]
def ofB (l : List Nat) : Nat := l.foldl (fun n c => 256 * n + c) 0
theorem ofB_snoc (l : List Nat) (c : Nat) : ofB (l ++ [c]) = 256 * ofB l + c := by unfold ofB; rw [List.foldl_append]; rfl
theorem ofB_five {n : Nat} (h : n < 1099511627776) : ofB (five n) = n := by simp only [ofB, five, List.foldl_cons, List.foldl_nil]; omega
theorem five_lt (n : Nat) : ∀ x ∈ five n, x < 256 := by intro x hx; simp [five] at hx; omega
theorem five_ofB {a b c d e : Nat} (ha : a < 256) (hb : b < 256) (hc : c < 256) (hd : d < 256) (he : e < 256) : five (ofB [a, b, c, d, e]) = [a, b, c, d, e] := by
  simp only [ofB, five, List.foldl_cons, List.foldl_nil, List.cons.injEq, and_true]
  omega
theorem tail4_lt (n : Nat) : ∀ x ∈ tail4 n, x < 256 := by intro x hx; simp [tail4] at hx; omega
end Go.Proofs.YtcfnjpokfodmoaaGreatDoor
/- Walks: pack.heavy, slices.IndexFunc, ContainsFunc, pack.alphabet, cmp.Compare, leaves' comparison. -/
namespace Go.Proofs.YtcfnjpokfodmoaaGreatDoor
open Go.RowKit

/-- A weight above what may be. -/
def heavyB (x : Int) : Bool := decide (1099511627776 < x)
/-- Weights for no more symbols than may be. -/
def alphaB (ws : List Int) : Bool := decide (ws.length ≤ 512) && !ws.any heavyB
theorem heavy_any (x : Int) (w : World) : Calls Tryz.prog 185 #[.int .u64 x] w fun e w' => e = .returned (.bool (heavyB x)) ∧ w' = w := by
  have hb : heavyB x = decide (1099511627776 < x) := rfl
  generalize heavyB x = b at hb ⊢
  go_enter Tryz.func185, Tryz.ntmps185
  go_wp2
  go_ret
  exact ⟨by rw [hb]; rfl, rfl⟩
/-- What IndexFunc answers. -/
def IndexFP (ws : List Int) (w : World) (e : Ending) (w' : World) : Prop := ∃ r : Int, e = .returned (.int .i64 r) ∧ (decide (0 ≤ r) = ws.any heavyB) ∧ w' = w
set_option maxHeartbeats 400000 in
theorem indexF_any (A : Option Addr) (ws : List Int) (c : Nat) (w : World) (h : Rd w w.heap.size A (ws.map (.int .u64))) (hlen : ws.length ≤ 9223372036854775807) :
    Calls Tryz.prog 232 #[.slice A ws.length c, .func (.func 185) #[] #[]] w (IndexFP ws w) := by
  have H := hide h
  clear h
  go_enter Tryz.func232, Tryz.ntmps232
  go_wp2_with fail
  go_loopw [8] (fun i wr => ∃ k : Nat, k ≤ ws.length ∧ i = .int .i64 k ∧ (ws.take k).any heavyB = false ∧ wr = w) (fun i _ => ws.length - (intOf i).toNat)
  case atStart => exact ⟨0, by omega, rfl, by simp, rfl⟩
  case round =>
    obtain ⟨k, hk, rfl, hno, rfl⟩ := hrel
    have HN := hide hno
    clear hno
    by_cases hlt : k < ws.length
    · obtain ⟨b, o, x, rfl, hb, hx, hc⟩ := H.out.int hlt
      have HX := hide hx
      have hv := heavy_any x wr
      obtain ⟨v, hve⟩ : ∃ v, v = heavyB x := ⟨_, rfl⟩
      rw [← hve] at hv
      have HV := hide hve
      have HC := hide hv
      clear hx hv hve
      cases v with
      | true =>
        go_wp2_with (go_at_call 185; refine (Calls.mono HC.out ?_); rintro e w1 ⟨rfl, hww⟩; replace hww := hww.symm; subst hww)
        go_ret
        refine ⟨k, rfl, ?_, rfl⟩
        rw [decide_eq_true (by omega)]
        exact (any_of HX.out HV.out.symm).symm
      | false =>
        go_wp2_with (go_at_call 185; refine (Calls.mono HC.out ?_); rintro e w1 ⟨rfl, hww⟩; replace hww := hww.symm; subst hww)
        go_roundw
        case rel => exact ⟨k + 1, by omega, by go_num, by rw [any_step HX.out, HN.out, ← HV.out]; rfl, by first | rfl | trivial⟩
        case measure => simp [intOf]; omega
    · go_wp2_with fail
      go_ret
      refine ⟨-1, rfl, ?_, rfl⟩
      have := HN.out
      rw [List.take_of_length_le (by omega)] at this
      rw [this]; rfl
theorem containsF_any (A : Option Addr) (ws : List Int) (c : Nat) (w : World) (h : Rd w w.heap.size A (ws.map (.int .u64))) (hlen : ws.length ≤ 9223372036854775807) :
    Calls Tryz.prog 184 #[.slice A ws.length c, .func (.func 185) #[] #[]] w fun e w' => e = .returned (.bool (ws.any heavyB)) ∧ w' = w := by
  have ix := indexF_any A ws c w h hlen
  have HI := hide ix
  clear ix h
  go_enter Tryz.func184, Tryz.ntmps184
  go_wp2_with (go_at_call 232; refine (Calls.mono HI.out ?_); rintro e w1 ⟨r, rfl, hr, hww⟩; replace hww := hww.symm; subst hww; have HR := hide hr; clear hr)
  go_ret
  exact ⟨ret_bool HR.out, rfl⟩
theorem alphabet_any (A : Option Addr) (ws : List Int) (c : Nat) (w : World) (h : Rd w w.heap.size A (ws.map (.int .u64))) (hlen : ws.length ≤ 9223372036854775807) :
    Calls Tryz.prog 133 #[.slice A ws.length c] w fun e w' => e = .returned (.bool (alphaB ws)) ∧ w' = w := by
  have ix := containsF_any A ws c w h hlen
  have hb : alphaB ws = (decide (ws.length ≤ 512) && !ws.any heavyB) := rfl
  generalize ws.any heavyB = b at ix hb
  have HI := hide ix
  have HB := hide hb
  clear ix h hb
  by_cases g : ws.length ≤ 512
  · have gd : decide ((ws.length : Int) ≤ 512) = true := decide_eq_true (by omega)
    go_enter Tryz.func133, Tryz.ntmps133
    go_wp2_with (go_at_call 184; refine (Calls.mono HI.out ?_); rintro e w1 ⟨rfl, hww⟩; replace hww := hww.symm; subst hww)
    go_ret
    exact ⟨ret_bool (by rw [HB.out, decide_eq_true g]; rfl), rfl⟩
  · have gd : decide ((ws.length : Int) ≤ 512) = false := decide_eq_false (by omega)
    go_enter Tryz.func133, Tryz.ntmps133
    go_wp2_with (go_at_call 184; refine (Calls.mono HI.out ?_); rintro e w1 ⟨rfl, hww⟩; replace hww := hww.symm; subst hww)
    go_ret
    exact ⟨ret_bool (by rw [HB.out, decide_eq_false g]; rfl), rfl⟩

/-- Less, alike or more. -/
def cmpI (x y : Int) : Int := if x < y then -1 else if y < x then 1 else 0
theorem cmpI_neg (x y : Int) : decide (cmpI x y < 0) = decide (x < y) := by
  unfold cmpI
  by_cases h : x < y
  · rw [if_pos h]; simp [h]
  · rw [if_neg h]
    split <;> simp [h]
theorem isNaN_any (x : Int) (w : World) : Calls Tryz.prog 234 #[.int .u64 x] w fun e w' => e = .returned (.bool false) ∧ w' = w := by
  go_enter Tryz.func234, Tryz.ntmps234
  go_wp2
  go_ret
  exact ⟨by first | rfl | (simp; done), rfl⟩
theorem compare_any (x y : Int) (w : World) : Calls Tryz.prog 188 #[.int .u64 x, .int .u64 y] w fun e w' => e = .returned (.int .i64 (cmpI x y)) ∧ w' = w := by
  have nan := fun (z : Int) (W : World) => isNaN_any z W
  have HN := hide nan
  clear nan
  by_cases h : x < y
  · have e1 : cmpI x y = -1 := if_pos h
    rw [e1]
    go_enter Tryz.func188, Tryz.ntmps188
    go_wp2_with (go_at_call 234; refine (Calls.mono (HN.out _ _) ?_); rintro e w1 ⟨rfl, hww⟩; replace hww := hww.symm; subst hww)
    go_ret
    exact ⟨rfl, rfl⟩
  · by_cases h2 : y < x
    · have e1 : cmpI x y = 1 := by unfold cmpI; rw [if_neg h, if_pos h2]
      rw [e1]
      go_enter Tryz.func188, Tryz.ntmps188
      go_wp2_with (go_at_call 234; refine (Calls.mono (HN.out _ _) ?_); rintro e w1 ⟨rfl, hww⟩; replace hww := hww.symm; subst hww)
      go_ret
      exact ⟨rfl, rfl⟩
    · have e1 : cmpI x y = 0 := by unfold cmpI; rw [if_neg h, if_neg h2]
      rw [e1]
      go_enter Tryz.func188, Tryz.ntmps188
      go_wp2_with (go_at_call 234; refine (Calls.mono (HN.out _ _) ?_); rintro e w1 ⟨rfl, hww⟩; replace hww := hww.symm; subst hww)
      go_ret
      exact ⟨rfl, rfl⟩
/-- The comparison that leaves hands to the sort: B holds the weights' slice. -/
theorem lcmp_any (B : Nat) (A : Option Addr) (ws : List Int) (c x y : Nat) (w : World) (hB : w.cell? ⟨B, 0, none⟩ = some (.slice A ws.length c)) (h : Rd w w.heap.size A (ws.map (.int .u64))) (hx : x < ws.length) (hy : y < ws.length) :
    Calls Tryz.prog 187 #[.int .i64 x, .int .i64 y, .pointer (some ⟨B, 0, none⟩)] w fun e w' => e = .returned (.int .i64 (cmpI (ws.getD x 0) (ws.getD y 0))) ∧ ∃ j, w' = w.drewN j := by
  obtain ⟨b, o, u, hA, hb, hu, hc⟩ := h.int hx
  obtain ⟨b2, o2, v, hA2, hb2, hv, hc2⟩ := h.int hy
  subst hA
  simp only [Option.some.injEq, Addr.mk.injEq, and_true] at hA2
  obtain ⟨rfl, rfl⟩ := hA2
  have e1 : ws.getD x 0 = u := by rw [List.getD_eq_getElem?_getD, hu]; rfl
  have e2 : ws.getD y 0 = v := by rw [List.getD_eq_getElem?_getD, hv]; rfl
  rw [e1, e2]
  have cp := fun (W : World) => compare_any u v W
  have HC := hide cp
  clear cp h hu hv e1 e2
  go_enter Tryz.func187, Tryz.ntmps187
  go_wp2_with fail
  go_quiet ((go_at_call 188; exact Calls.quiet_of_same (HC.out _)))
  go_wp2_with fail
  go_ret
  exact ⟨rfl, _, rfl⟩
end Go.Proofs.YtcfnjpokfodmoaaGreatDoor
/- Codes by their lengths, plainly: how many there are of each length, the first one of each, each symbol's, the symbols in order; and how they are filled in, length by length, symbol by symbol. No program in sight. -/
namespace Go.Proofs.YtcfnjpokfodmoaaGreatDoor
open Go.RowKit

/-- How many of the first i are just l. -/
def cntT (ls : List Int) (l i : Nat) : Nat := (ls.take i).countP (fun x => decide (x = (l : Int)))
def cntC (ls : List Int) (l : Nat) : Nat := cntT ls l ls.length
/-- The code behind the last one of length l. -/
def nxtC (ls : List Int) : Nat → Nat
  | 0 => 0
  | l + 1 => 2 * nxtC ls l + cntC ls (l + 1)
/-- The first code of a length. -/
def fstC (ls : List Int) (l : Nat) : Nat := 2 * nxtC ls (l - 1)
/-- Symbol j's length, as a number. -/
def lenN (ls : List Int) (j : Nat) : Nat := (ls.getD j 0).toNat
/-- Symbol j's code. -/
def codeN (ls : List Int) (j : Nat) : Nat := if 1 ≤ lenN ls j ∧ lenN ls j ≤ 15 then fstC ls (lenN ls j) + cntT ls (lenN ls j) j else 0
/-- The symbols of length l among the first i, in order. -/
def idxT (ls : List Int) (l i : Nat) : List Nat := (List.range i).filter (fun j => decide (ls[j]? = some (l : Int)))
def idxC (ls : List Int) (l : Nat) : List Nat := idxT ls l ls.length
/-- All symbols of lengths 1 to l, in order of their codes. -/
def symC (ls : List Int) : Nat → List Nat
  | 0 => []
  | l + 1 => symC ls l ++ idxC ls (l + 1)

theorem cntT_le (ls : List Int) (l i : Nat) : cntT ls l i ≤ ls.length := by
  unfold cntT
  exact Nat.le_trans List.countP_le_length (by simp; omega)
theorem cntT_step {ls : List Int} {l i : Nat} {x : Int} (h : ls[i]? = some x) : cntT ls l (i + 1) = cntT ls l i + (if x = (l : Int) then 1 else 0) := by
  unfold cntT
  rw [List.take_add_one, h, List.countP_append]
  by_cases hx : x = (l : Int) <;> simp [hx]
theorem cntT_zero (ls : List Int) (l : Nat) : cntT ls l 0 = 0 := by simp [cntT]
theorem idxT_step {ls : List Int} {l i : Nat} {x : Int} (h : ls[i]? = some x) : idxT ls l (i + 1) = idxT ls l i ++ (if x = (l : Int) then [i] else []) := by
  unfold idxT
  rw [List.range_succ, List.filter_append]
  by_cases hx : x = (l : Int) <;> simp [h, hx]
theorem idxT_zero (ls : List Int) (l : Nat) : idxT ls l 0 = [] := by simp [idxT]
theorem idxT_length (ls : List Int) (l i : Nat) (h : i ≤ ls.length) : (idxT ls l i).length = cntT ls l i := by
  induction i with
  | zero => simp [idxT, cntT]
  | succ i ih =>
    have hx : ls[i]? = some ls[i] := List.getElem?_eq_getElem (by omega)
    rw [idxT_step hx, cntT_step hx, List.length_append, ih (by omega)]
    split <;> simp
theorem nxtC_le (ls : List Int) (l : Nat) : nxtC ls l ≤ l * ls.length * 2 ^ l := by
  induction l with
  | zero => simp [nxtC]
  | succ l ih =>
    rw [nxtC]
    have h1 : cntC ls (l + 1) ≤ ls.length := cntT_le _ _ _
    have h2 : ls.length * 1 ≤ ls.length * 2 ^ (l + 1) := Nat.mul_le_mul_left _ (Nat.two_pow_pos _)
    have h3 : (l + 1) * ls.length * 2 ^ (l + 1) = 2 * (l * ls.length * 2 ^ l) + ls.length * 2 ^ (l + 1) := by
      rw [Nat.add_mul, Nat.add_mul, Nat.one_mul, Nat.pow_succ, ← Nat.mul_assoc (l * ls.length)]; omega
    omega
theorem nxtC_small {ls : List Int} {l : Nat} (h : ls.length ≤ 512) (hl : l ≤ 15) : nxtC ls l ≤ 300000000 := by
  have h1 := nxtC_le ls l
  have h2 : l * ls.length ≤ 15 * 512 := Nat.mul_le_mul hl h
  have h3 : 2 ^ l ≤ 2 ^ 15 := Nat.pow_le_pow_right (by omega) hl
  have := Nat.mul_le_mul h2 h3
  omega

/-- A list by its places. -/
def tab (n : Nat) (f : Nat → Int) : List Int := (List.range n).map f
@[simp] theorem tab_length (n : Nat) (f : Nat → Int) : (tab n f).length = n := by simp [tab]
theorem tab_get {n i : Nat} (f : Nat → Int) (h : i < n) : (tab n f)[i]? = some (f i) := by simp [tab, h]
theorem tab_set (n i : Nat) (f : Nat → Int) (v : Int) : (tab n f).set i v = tab n (fun j => if j = i then v else f j) := by
  apply List.ext_getElem?
  intro k
  by_cases hk : k < n
  · rw [tab_get _ hk, List.getElem?_set]
    simp only [tab_length]
    by_cases h : i = k
    · subst h; simp [hk]
    · rw [if_neg h, tab_get _ hk, if_neg (fun e => h e.symm)]
  · rw [List.getElem?_eq_none (by simp; omega), List.getElem?_eq_none (by simp; omega)]
theorem tab_congr {n : Nat} {f g : Nat → Int} (h : ∀ i, i < n → f i = g i) : tab n f = tab n g :=
  List.map_congr_left fun i hi => h i (by simpa using hi)

/-- The counts, the first codes, the codes, as they are when l's first i symbols are done. -/
def cntP (ls : List Int) (l i : Nat) : Nat → Int := fun j => if j = 0 then 0 else if j < l then (cntC ls j : Nat) else if j = l then (cntT ls l i : Nat) else 0
def fstP (ls : List Int) (l : Nat) : Nat → Int := fun j => if j = 0 then 0 else if j ≤ l then (fstC ls j : Nat) else 0
def codP (ls : List Int) (l i : Nat) : Nat → Int := fun j => if lenN ls j = 0 then 0 else if lenN ls j < l ∨ (lenN ls j = l ∧ j < i) then (codeN ls j : Nat) else 0

theorem cntP_hit {ls : List Int} {l i : Nat} (h1 : 1 ≤ l) (h15 : l ≤ 15) (h : ls[i]? = some (l : Int)) : (tab 16 (cntP ls l i)).set l ((cntT ls l i : Nat) + 1 : Int) = tab 16 (cntP ls l (i + 1)) := by
  rw [tab_set]
  refine tab_congr fun j hj => ?_
  unfold cntP
  rw [cntT_step h, if_pos rfl]
  by_cases e : j = l
  · subst e; simp; omega
  · simp [e]
theorem cntP_miss {ls : List Int} {l i : Nat} {x : Int} (h : ls[i]? = some x) (hx : ¬ x = (l : Int)) : cntP ls l (i + 1) = cntP ls l i := by
  unfold cntP; rw [cntT_step h, if_neg hx]; rfl
theorem cntP_next (ls : List Int) (l : Nat) (h1 : 1 ≤ l) : cntP ls l ls.length = cntP ls (l + 1) 0 := by
  funext j
  unfold cntP
  rw [cntT_zero]
  by_cases h0 : j = 0
  · simp [h0]
  · by_cases hl : j < l
    · simp [h0, hl]; omega
    · by_cases he : j = l
      · subst he; simp [h0]; rfl
      · simp [h0, hl, he]; omega
theorem fstP_next (ls : List Int) (l : Nat) (h1 : 1 ≤ l) (h15 : l ≤ 15) : (tab 16 (fstP ls (l - 1))).set l (fstC ls l : Nat) = tab 16 (fstP ls l) := by
  rw [tab_set]
  refine tab_congr fun j hj => ?_
  unfold fstP
  by_cases e : j = l
  · subst e; simp; omega
  · simp only [e, if_false]
    by_cases h0 : j = 0
    · simp [h0]
    · by_cases hl : j ≤ l - 1
      · rw [if_neg h0, if_pos hl, if_neg h0, if_pos (by omega)]
      · rw [if_neg h0, if_neg hl, if_neg h0, if_neg (by omega)]
theorem lenN_of {ls : List Int} {i : Nat} {x : Int} (h : ls[i]? = some x) : lenN ls i = x.toNat := by
  unfold lenN; rw [List.getD_eq_getElem?_getD, h]; rfl
theorem codP_hit {ls : List Int} {l i : Nat} (h1 : 1 ≤ l) (h15 : l ≤ 15) (h : ls[i]? = some (l : Int)) :
    (tab ls.length (codP ls l i)).set i ((fstC ls l + cntT ls l i : Nat) : Int) = tab ls.length (codP ls l (i + 1)) := by
  rw [tab_set]
  refine tab_congr fun j hj => ?_
  have hi : lenN ls i = l := by rw [lenN_of h]; omega
  unfold codP
  by_cases e : j = i
  · subst e
    rw [if_pos rfl, hi, if_neg (by omega), if_pos (by omega)]
    unfold codeN
    rw [hi, if_pos ⟨h1, h15⟩]
  · rw [if_neg e]
    by_cases h0 : lenN ls j = 0
    · rw [if_pos h0, if_pos h0]
    · rw [if_neg h0, if_neg h0]
      by_cases hc : lenN ls j < l ∨ (lenN ls j = l ∧ j < i)
      · rw [if_pos hc, if_pos (by omega)]
      · rw [if_neg hc, if_neg (by omega)]
theorem codP_miss {ls : List Int} {l i : Nat} {x : Int} (h1 : 1 ≤ l) (h : ls[i]? = some x) (hx : ¬ x = (l : Int)) : codP ls l (i + 1) = codP ls l i := by
  funext j
  unfold codP
  by_cases e : j = i
  · subst e
    have : lenN ls j ≠ l := by rw [lenN_of h]; omega
    simp [this]
  · by_cases h0 : lenN ls j = 0
    · rw [if_pos h0, if_pos h0]
    · rw [if_neg h0, if_neg h0]
      by_cases hc : lenN ls j < l ∨ (lenN ls j = l ∧ j < i)
      · rw [if_pos (by omega), if_pos hc]
      · rw [if_neg (by omega), if_neg hc]
theorem codP_next (ls : List Int) (l : Nat) : tab ls.length (codP ls l ls.length) = tab ls.length (codP ls (l + 1) 0) := by
  refine tab_congr fun j hj => ?_
  unfold codP
  by_cases h0 : lenN ls j = 0
  · rw [if_pos h0, if_pos h0]
  · rw [if_neg h0, if_neg h0]
    by_cases hc : lenN ls j < l ∨ (lenN ls j = l ∧ j < ls.length)
    · rw [if_pos hc, if_pos (by omega)]
    · rw [if_neg hc, if_neg (by omega)]

/-- The book's cells. -/
def bookC (cnt fst : List Int) (v cv lv : Value) : Array Value := (cnt.map (Value.int .i64) ++ (fst.map (Value.int .u64) ++ [v, cv, lv])).toArray
section
variable {cnt fst : List Int} {v cv lv : Value}
theorem bookC_cnt (hc : cnt.length = 16) {i : Nat} {x : Int} (h : cnt[i]? = some x) : (bookC cnt fst v cv lv)[i]? = some (.int .i64 x) := by
  have hi : i < 16 := by rw [← hc]; exact (List.getElem?_eq_some_iff.1 h).1
  simp only [bookC, List.getElem?_toArray]
  rw [List.getElem?_append_left (by simp; omega), List.getElem?_map, h]; rfl
theorem bookC_fst (hc : cnt.length = 16) {i : Nat} {x : Int} (h : fst[i]? = some x) : (bookC cnt fst v cv lv)[16 + i]? = some (.int .u64 x) := by
  have hi : i < fst.length := (List.getElem?_eq_some_iff.1 h).1
  simp only [bookC, List.getElem?_toArray]
  rw [List.getElem?_append_right (by simp; omega), List.getElem?_append_left (by simp; omega), List.length_map, hc, List.getElem?_map, show 16 + i - 16 = i by omega, h]; rfl
theorem bookC_tail (hc : cnt.length = 16) (hf : fst.length = 16) : (bookC cnt fst v cv lv)[32]? = some v ∧ (bookC cnt fst v cv lv)[33]? = some cv ∧ (bookC cnt fst v cv lv)[34]? = some lv := by
  simp only [bookC, List.getElem?_toArray]
  refine ⟨?_, ?_, ?_⟩ <;> rw [List.getElem?_append_right (by simp; omega), List.getElem?_append_right (by simp; omega)] <;> simp [hc, hf]
theorem bookC_setCnt (hc : cnt.length = 16) (i : Nat) (hi : i < 16) (x : Int) : (bookC cnt fst v cv lv).setIfInBounds i (.int .i64 x) = bookC (cnt.set i x) fst v cv lv := by
  simp only [bookC, List.setIfInBounds_toArray]
  rw [List.set_append_left _ _ (by simp; omega), List.map_set]
theorem bookC_setFst (hc : cnt.length = 16) (hf : fst.length = 16) (i : Nat) (hi : i < 16) (x : Int) : (bookC cnt fst v cv lv).setIfInBounds (16 + i) (.int .u64 x) = bookC cnt (fst.set i x) v cv lv := by
  simp only [bookC, List.setIfInBounds_toArray]
  rw [List.set_append_right _ _ (by simp; omega), List.set_append_left _ _ (by simp; omega), List.length_map, hc, show 16 + i - 16 = i by omega, List.map_set]
theorem bookC_setSym (hc : cnt.length = 16) (hf : fst.length = 16) (u : Value) : (bookC cnt fst v cv lv).setIfInBounds 32 u = bookC cnt fst u cv lv := by
  simp only [bookC, List.setIfInBounds_toArray]
  rw [List.set_append_right _ _ (by simp; omega), List.set_append_right _ _ (by simp; omega)]
  simp [hc, hf]
end
theorem bookC_zero (v cv lv : Value) : bookC (tab 16 fun _ => 0) (tab 16 fun _ => 0) v cv lv = #[.int .i64 0, .int .i64 0, .int .i64 0, .int .i64 0, .int .i64 0, .int .i64 0, .int .i64 0, .int .i64 0, .int .i64 0, .int .i64 0, .int .i64 0, .int .i64 0, .int .i64 0, .int .i64 0, .int .i64 0, .int .i64 0,
  .int .u64 0, .int .u64 0, .int .u64 0, .int .u64 0, .int .u64 0, .int .u64 0, .int .u64 0, .int .u64 0, .int .u64 0, .int .u64 0, .int .u64 0, .int .u64 0, .int .u64 0, .int .u64 0, .int .u64 0, .int .u64 0, v, cv, lv] := rfl
end Go.Proofs.YtcfnjpokfodmoaaGreatDoor
/- Walks: pack.Cost. -/
namespace Go.Proofs.YtcfnjpokfodmoaaGreatDoor
open Go.RowKit

theorem alphaB_at {ws : List Int} (h : alphaB ws = true) : ws.length ≤ 512 ∧ ∀ x ∈ ws, x ≤ 1099511627776 := by
  unfold alphaB at h
  simp only [Bool.and_eq_true, decide_eq_true_eq, Bool.not_eq_true'] at h
  refine ⟨h.1, fun x hx => ?_⟩
  have := List.any_eq_false.1 h.2 x hx
  unfold heavyB at this
  simpa using this

end Go.Proofs.YtcfnjpokfodmoaaGreatDoor
/- Runs of 0 as numbers in two digits, plainly. No program in sight. -/
namespace Go.Proofs.YtcfnjpokfodmoaaGreatDoor
open Go.RowKit

def digitsF : Nat → Nat → List Nat
  | 0, _ => []
  | f + 1, n => if n = 0 then [] else (n - 1) % 2 :: digitsF f ((n - 1) / 2)
/-- A number's digits, each less 1, the first one first. -/
def digitsL (n : Nat) : List Nat := digitsF n n
def numL : List Nat → Nat
  | [] => 0
  | x :: d => x + 1 + 2 * numL d
theorem digitsF_any : ∀ {f n : Nat}, n ≤ f → digitsF f n = digitsL n := by
  have key : ∀ (f g n : Nat), n ≤ f → n ≤ g → digitsF f n = digitsF g n := by
    intro f
    induction f with
    | zero =>
      intro g n h1 _
      obtain rfl : n = 0 := by omega
      cases g with
      | zero => rfl
      | succ g => rw [digitsF, digitsF, if_pos rfl]
    | succ f ih =>
      intro g n h1 h2
      by_cases h0 : n = 0
      · subst h0
        cases g with
        | zero => rw [digitsF, digitsF, if_pos rfl]
        | succ g => rw [digitsF, digitsF, if_pos rfl, if_pos rfl]
      · cases g with
        | zero => omega
        | succ g => rw [digitsF, digitsF, if_neg h0, if_neg h0, ih g _ (by omega) (by omega)]
  intro f n h
  exact key f n n h (Nat.le_refl n)
theorem digitsL_zero : digitsL 0 = [] := rfl
theorem digitsL_pos {n : Nat} (h : 0 < n) : digitsL n = (n - 1) % 2 :: digitsL ((n - 1) / 2) := by
  obtain ⟨m, rfl⟩ : ∃ m, n = m + 1 := ⟨n - 1, by omega⟩
  show digitsF (m + 1) (m + 1) = _
  rw [digitsF, if_neg (by omega), digitsF_any (by omega)]
theorem digitsL_lt : ∀ (f : Nat) {n : Nat}, n ≤ f → ∀ x ∈ digitsL n, x < 2 := by
  intro f
  induction f with
  | zero =>
    intro n h x hx
    obtain rfl : n = 0 := by omega
    simp [digitsL_zero] at hx
  | succ f ih =>
    intro n h x hx
    rcases Nat.eq_zero_or_pos n with rfl | hp
    · simp [digitsL_zero] at hx
    · rw [digitsL_pos hp] at hx
      rcases List.mem_cons.1 hx with rfl | hx
      · omega
      · exact ih (by omega) x hx
theorem num_digits : ∀ (f : Nat) {n : Nat}, n ≤ f → numL (digitsL n) = n := by
  intro f
  induction f with
  | zero =>
    intro n h
    obtain rfl : n = 0 := by omega
    rfl
  | succ f ih =>
    intro n h
    rcases Nat.eq_zero_or_pos n with rfl | hp
    · rfl
    · rw [digitsL_pos hp, numL, ih (by omega)]; omega
theorem digits_num {d : List Nat} (h : ∀ x ∈ d, x < 2) : digitsL (numL d) = d := by
  induction d with
  | nil => rfl
  | cons x d ih =>
    have hx := h x (by simp)
    rw [numL, digitsL_pos (by omega), show (x + 1 + 2 * numL d - 1) % 2 = x by omega, show (x + 1 + 2 * numL d - 1) / 2 = numL d by omega, ih (fun y hy => h y (List.mem_cons_of_mem _ hy))]
/-- Bytes' symbols, behind n that are 0. -/
def encZ : Nat → List Nat → List Nat
  | n, [] => digitsL n ++ [257]
  | n, c :: s => if c = 0 then encZ (n + 1) s else digitsL n ++ (c + 1) :: encZ 0 s
theorem encZ_rep (n : Nat) : ∀ (m : Nat) (s : List Nat), encZ m (List.replicate n 0 ++ s) = encZ (m + n) s := by
  induction n with
  | zero => intro m s; rfl
  | succ n ih =>
    intro m s
    rw [List.replicate_succ, List.cons_append, encZ, if_pos rfl, ih, Nat.add_assoc, Nat.add_comm 1]
/-- Symbols' bytes: to the end's, and what is behind it. -/
def decZ : List Nat → List Nat → List Nat → Option (List Nat × List Nat)
  | _, _, [] => none
  | out, d, x :: l =>
    if x < 2 then decZ out (d ++ [x]) l
    else if x = 257 then some (out ++ List.replicate (numL d) 0, l)
    else if 257 < x then none
    else decZ (out ++ List.replicate (numL d) 0 ++ [x - 1]) [] l
theorem decZ_digits {d : List Nat} (h : ∀ x ∈ d, x < 2) : ∀ (out e l : List Nat), decZ out e (d ++ l) = decZ out (e ++ d) l := by
  induction d with
  | nil => intro out e l; rw [List.nil_append, List.append_nil]
  | cons x d ih =>
    intro out e l
    rw [List.cons_append, decZ, if_pos (h x (by simp)), ih (fun y hy => h y (List.mem_cons_of_mem _ hy)), List.append_assoc]; rfl
theorem dec_enc {s : List Nat} (hs : ∀ c ∈ s, c < 256) : ∀ (out : List Nat) (n : Nat) (r : List Nat), decZ out [] (encZ n s ++ r) = some (out ++ List.replicate n 0 ++ s, r) := by
  induction s with
  | nil =>
    intro out n r
    rw [encZ, List.append_assoc, decZ_digits (digitsL_lt n (Nat.le_refl n)), List.nil_append, List.singleton_append, decZ, if_neg (by decide), if_pos rfl, num_digits n (Nat.le_refl n), List.append_nil]
  | cons c s ih =>
    intro out n r
    have hc := hs c (by simp)
    have ih := ih (fun x hx => hs x (List.mem_cons_of_mem _ hx))
    rw [encZ]
    by_cases h0 : c = 0
    · subst h0
      rw [if_pos rfl, ih, List.replicate_succ', List.append_assoc, List.append_assoc, List.append_assoc]; rfl
    · rw [if_neg h0, List.append_assoc, decZ_digits (digitsL_lt n (Nat.le_refl n)), List.nil_append, List.cons_append, decZ, if_neg (by omega), if_neg (by omega), if_neg (by omega), num_digits n (Nat.le_refl n), ih, Nat.add_sub_cancel, List.replicate_zero, List.append_nil, List.append_assoc]; rfl
/-- What is read is written so, and not otherwise. -/
theorem enc_dec : ∀ {l out d t r : List Nat}, decZ out d l = some (t, r) → (∀ x ∈ d, x < 2) → ∃ s, t = out ++ s ∧ (∀ c ∈ s, c < 256) ∧ d ++ l = encZ 0 s ++ r := by
  intro l
  induction l with
  | nil => intro out d t r h _; cases h
  | cons x l ih =>
    intro out d t r h hd
    rw [decZ] at h
    by_cases h2 : x < 2
    · rw [if_pos h2] at h
      obtain ⟨s, h3, h4, h5⟩ := ih h (fun y hy => by
        rcases List.mem_append.1 hy with hy | hy
        · exact hd y hy
        · rw [List.mem_singleton.1 hy]; exact h2)
      exact ⟨s, h3, h4, by rw [← h5, List.append_assoc]; rfl⟩
    · rw [if_neg h2] at h
      by_cases h257 : x = 257
      · rw [if_pos h257] at h
        cases h
        subst h257
        refine ⟨List.replicate (numL d) 0, rfl, fun c hc => by rw [(List.mem_replicate.1 hc).2]; decide, ?_⟩
        have := encZ_rep (numL d) 0 []
        rw [List.append_nil] at this
        rw [this, Nat.zero_add, encZ, digits_num hd, List.append_assoc]; rfl
      · rw [if_neg h257] at h
        by_cases h3 : 257 < x
        · rw [if_pos h3] at h; cases h
        · rw [if_neg h3] at h
          obtain ⟨s, h4, h5, h6⟩ := ih h (fun y hy => by simp at hy)
          refine ⟨List.replicate (numL d) 0 ++ (x - 1) :: s, by rw [h4]; simp, fun c hc => ?_, ?_⟩
          · rcases List.mem_append.1 hc with hc | hc
            · rw [(List.mem_replicate.1 hc).2]; decide
            · rcases List.mem_cons.1 hc with rfl | hc
              · omega
              · exact h5 c hc
          · rw [List.nil_append] at h6
            rw [encZ_rep, Nat.zero_add, encZ, if_neg (by omega), digits_num hd, Nat.sub_add_cancel (by omega), h6]; simp
theorem encZ_sym : ∀ {s : List Nat} (n : Nat), (∀ c ∈ s, c < 256) → ∀ x ∈ encZ n s, x ≤ 257 := by
  intro s
  induction s with
  | nil =>
    intro n _ x hx
    rw [encZ] at hx
    rcases List.mem_append.1 hx with hx | hx
    · have := digitsL_lt n (Nat.le_refl n) x hx; omega
    · rw [List.mem_singleton.1 hx]; decide
  | cons c s ih =>
    intro n h x hx
    have hc := h c (by simp)
    have ih := fun m => ih m (fun y hy => h y (List.mem_cons_of_mem _ hy))
    rw [encZ] at hx
    split at hx
    · exact ih _ x hx
    · rcases List.mem_append.1 hx with hx | hx
      · have := digitsL_lt n (Nat.le_refl n) x hx; omega
      · rcases List.mem_cons.1 hx with rfl | hx
        · omega
        · exact ih _ x hx
end Go.Proofs.YtcfnjpokfodmoaaGreatDoor
/- A row of bytes, and how far each was from its front, plainly. No program in sight. -/
namespace Go.Proofs.YtcfnjpokfodmoaaGreatDoor
open Go.RowKit

/-- The byte at a place, moved to the front. -/
def liftL (row : List Nat) (i : Nat) : List Nat := row.getD i 0 :: (row.take i ++ row.drop (i + 1))
/-- Where a byte is. -/
def idxL (row : List Nat) (c : Nat) : Nat := row.findIdx (fun x => x == c)
/-- A right row: each byte once. -/
structure RowOK (row : List Nat) : Prop where
  len : row.length = 256
  nodup : row.Nodup
  lt : ∀ c ∈ row, c < 256
theorem nodup_le : ∀ (n : Nat) {l : List Nat}, l.Nodup → (∀ x ∈ l, x < n) → l.length ≤ n := by
  intro n
  induction n with
  | zero =>
    intro l _ h
    cases l with
    | nil => exact Nat.le_refl 0
    | cons x l => exact absurd (h x (by simp)) (by omega)
  | succ n ih =>
    intro l hn h
    by_cases hm : n ∈ l
    · have h1 := ih (hn.erase n) (fun x hx => by
        have hx2 := (List.Nodup.mem_erase_iff hn).1 hx
        have := h x hx2.2
        have := hx2.1
        omega)
      rw [List.length_erase_of_mem hm] at h1
      omega
    · have := ih hn (fun x hx => by
        have := h x hx
        have : x ≠ n := fun e => hm (e ▸ hx)
        omega)
      omega
theorem nodup_full {n : Nat} {l : List Nat} (hn : l.Nodup) (h : ∀ x ∈ l, x < n) (hl : l.length = n) {c : Nat} (hc : c < n) : c ∈ l := by
  by_cases hm : c ∈ l
  · exact hm
  · have h1 := nodup_le n (l := c :: l) (List.nodup_cons.2 ⟨hm, hn⟩) (fun x hx => by
      rcases List.mem_cons.1 hx with rfl | hx
      · exact hc
      · exact h x hx)
    rw [List.length_cons] at h1
    omega
theorem RowOK.has {row : List Nat} (h : RowOK row) (c : Nat) (hc : c < 256) : c ∈ row := nodup_full h.nodup h.lt h.len hc
theorem liftL_perm {row : List Nat} {i : Nat} (h : i < row.length) : (liftL row i).Perm row := by
  have e : row = row.take i ++ row[i] :: row.drop (i + 1) := by rw [← List.drop_eq_getElem_cons h, List.take_append_drop]
  unfold liftL
  rw [List.getD_eq_getElem?_getD, List.getElem?_eq_getElem h]
  conv => rhs; rw [e]
  exact List.perm_middle.symm
theorem RowOK.lift {row : List Nat} (h : RowOK row) {i : Nat} (hi : i < 256) : RowOK (liftL row i) := by
  have hp := liftL_perm (row := row) (i := i) (by rw [h.len]; exact hi)
  exact ⟨by rw [hp.length_eq]; exact h.len, hp.nodup_iff.2 h.nodup, fun c hc => h.lt c (hp.mem_iff.1 hc)⟩
theorem idxL_lt {row : List Nat} (h : RowOK row) {c : Nat} (hc : c < 256) : idxL row c < 256 := by
  rw [← h.len]
  exact List.findIdx_lt_length_of_exists ⟨c, h.has c hc, by simp⟩
theorem idxL_get {row : List Nat} (h : RowOK row) {c : Nat} (hc : c < 256) : row.getD (idxL row c) 0 = c := by
  have hl : idxL row c < row.length := by rw [h.len]; exact idxL_lt h hc
  have := List.findIdx_getElem (xs := row) (p := fun x => x == c) (w := hl)
  rw [List.getD_eq_getElem?_getD, List.getElem?_eq_getElem hl]
  exact eq_of_beq this
theorem idxL_of {row : List Nat} (h : RowOK row) {i : Nat} (hi : i < 256) : idxL row (row.getD i 0) = i := by
  have hl : i < row.length := by rw [h.len]; exact hi
  have hc : row.getD i 0 < 256 := by rw [List.getD_eq_getElem?_getD, List.getElem?_eq_getElem hl]; exact h.lt _ (List.getElem_mem hl)
  have h2 := idxL_get h hc
  have h3 := idxL_lt h hc
  generalize idxL row (row.getD i 0) = k at h2 h3
  have hl3 : k < row.length := by rw [h.len]; exact h3
  rw [List.getD_eq_getElem?_getD, List.getD_eq_getElem?_getD, List.getElem?_eq_getElem hl, List.getElem?_eq_getElem hl3] at h2
  exact (List.getElem_inj h.nodup (h₀ := hl3) (h₁ := hl)).1 h2
/-- Bytes as how far each was; the row behind. -/
def toL (row : List Nat) : List Nat → List Nat × List Nat
  | [] => ([], row)
  | c :: s => let r := toL (liftL row (idxL row c)) s; (idxL row c :: r.1, r.2)
def fromL (row : List Nat) : List Nat → List Nat × List Nat
  | [] => ([], row)
  | i :: s => let r := fromL (liftL row i) s; (row.getD i 0 :: r.1, r.2)
theorem from_to {row : List Nat} (h : RowOK row) {s : List Nat} (hs : ∀ c ∈ s, c < 256) : fromL row (toL row s).1 = (s, (toL row s).2) := by
  induction s generalizing row with
  | nil => rfl
  | cons c s ih =>
    have hc := hs c (by simp)
    have := ih (h.lift (idxL_lt h hc)) (fun x hx => hs x (List.mem_cons_of_mem _ hx))
    show ((row.getD (idxL row c) 0 :: (fromL (liftL row (idxL row c)) (toL (liftL row (idxL row c)) s).1).1), _) = _
    rw [this, idxL_get h hc]; rfl
theorem to_from {row : List Nat} (h : RowOK row) {s : List Nat} (hs : ∀ i ∈ s, i < 256) : toL row (fromL row s).1 = (s, (fromL row s).2) := by
  induction s generalizing row with
  | nil => rfl
  | cons i s ih =>
    have hi := hs i (by simp)
    have := ih (h.lift hi) (fun x hx => hs x (List.mem_cons_of_mem _ hx))
    show ((idxL row (row.getD i 0) :: (toL (liftL row (idxL row (row.getD i 0))) (fromL (liftL row i) s).1).1), _) = _
    rw [idxL_of h hi, this]; rfl
def freshL : List Nat := List.range 256
theorem fresh_ok : RowOK freshL := ⟨by simp [freshL], List.nodup_range, fun c hc => List.mem_range.1 hc⟩
end Go.Proofs.YtcfnjpokfodmoaaGreatDoor
/- Walk: table.Add, the lengths in whatever block that isn't the Writer's. -/
namespace Go.Proofs.YtcfnjpokfodmoaaGreatDoor
open Go.RowKit

def TAdd2P (p : Nat) (row : Option Nat) (l0 : List Bool) (ls : List Int) (w : World) (e : Ending) (w' : World) : Prop := e = .returned (.tuple #[]) ∧ ∃ row', Wr w' p row' (l0 ++ tabBits ls) ∧ rowNew w row row' ∧ Fr (wS p row) w w'
theorem rowNew.trans {w wr : World} {row r1 r2 : Option Nat} (h : rowNew w row r1) (k : rowNew wr r1 r2) (hw : w.heap.size ≤ wr.heap.size) : rowNew w row r2 := by
  rcases k with rfl | ⟨g, rfl, hg⟩
  · exact h
  · exact .inr ⟨g, rfl, by omega⟩
theorem frNew {w wr w' : World} {p : Nat} {row r1 : Option Nat} (h : Fr (wS p row) w wr) (hr : rowNew w row r1) (k : Fr (wS p r1) wr w') : Fr (wS p row) w w' :=
  h.trans k fun g hg => by
    rcases hg with rfl | hg
    · exact .inl (.inl rfl)
    · rcases hr with rfl | ⟨g', rfl, hg'⟩
      · exact .inl (.inr hg)
      · cases hg; exact .inr hg'
set_option maxRecDepth 100000 in
set_option maxHeartbeats 4000000 in
theorem tadd2_any (p : Nat) (row : Option Nat) (l0 : List Bool) (A : Option Addr) (ls : List Int) (c : Nat) (w : World) (hW : Wr w p row l0) (h : Rd w w.heap.size A (ls.map (.int .i64))) (hA0 : ∀ a, A = some a → a.block ≠ p ∧ row ≠ some a.block) (hok : okL ls = true) (hne : ls.length ≠ 0) (hl0 : l0.length ≤ 1048576) :
    Calls Tryz.prog 102 #[.pointer (some ⟨p, 0, none⟩), .slice A ls.length c] w (TAdd2P p row l0 ls w) := by
  have H := hide h
  obtain ⟨h512, hr⟩ := okL_nat hok
  have HRg := hide hr
  have hT := tabBits_length_le hok
  obtain ⟨b0, o0, x0, hA, hb0, hx0, hc0⟩ := h.int (show 0 < ls.length by omega)
  subst hA
  obtain ⟨u0, u1⟩ := hr x0 (List.mem_of_getElem? hx0)
  obtain ⟨x0, rfl⟩ := Int.eq_ofNat_of_zero_le u0
  have hbits : tabBits ls = natBits x0 4 ++ tabT x0 (ls.map Int.toNat) := by
    have := dropN hx0
    rw [List.drop_zero] at this
    have e : (ls.map Int.toNat).headD 0 = x0 := by rw [this]; rfl
    unfold tabBits tableL
    rw [e]
  obtain ⟨F, hF⟩ : ∃ F, F = l0 ++ tabBits ls := ⟨_, rfl⟩
  have hFl : F.length ≤ 1100000 := by rw [hF, List.length_append]; omega
  have HFe := hide hF
  have HBits := hide hbits
  have hc0' : w.cell? ⟨b0, o0, none⟩ = some (.int .i64 x0) := hc0
  have ad := add_i p row l0 x0 4 w (by omega) (by decide) (by omega) (by decide) hW (by simp; omega)
  have HAd := hide ad
  clear h hok hr hT hx0 hc0 hbits hF ad hW
  go_enter Tryz.func102, Tryz.ntmps102
  go_wp2_with (go_at_call 103; refine (Calls.mono HAd.out ?_); rintro e w1 ⟨rfl, row1, hwr1, hrn1, hfr1⟩)
  have hb0w := hb0
  have hne0 := hA0 _ rfl
  have HN0 := hide hne0
  have hrow1 := hrn1
  have hbe1 := hfr1
  clear hne0 hA0
  rw [Int.toNat_natCast, show (4 : Int).toNat = 4 from rfl] at hwr1
  have HWr1 := hide hwr1
  clear hwr1 hrn1 hfr1
  go_loopw [4, 16] (fun nw i wr => ∃ (k M : Nat) (rw : Option Nat) (l : List Bool), k ≤ ls.length ∧ i = .int .i64 k ∧ nw = .int .i64 M ∧ M ≤ 15 ∧ Hid (Wr wr p rw l) ∧ rowNew w row rw ∧ Hid (l ++ tabT M ((ls.map Int.toNat).drop k) = F) ∧ Fr (wS p row) w wr) (fun _ i _ => ls.length - (intOf i).toNat)
  case atStart => exact ⟨0, x0, row1, _, by omega, rfl, rfl, by omega, HWr1, hrow1, hide (by rw [List.drop_zero, HFe.out, HBits.out, List.append_assoc]), hbe1⟩
  case round =>
    clear HWr1 hrow1
    obtain ⟨k, M, rw1, l, hk, rfl, rfl, hM, hwr, hrw, hsum, hbe⟩ := hrel
    by_cases hlt : k < ls.length
    · obtain ⟨b, o, x, hAb, hbb, hx, hcx⟩ := H.out.int hlt
      simp only [Option.some.injEq, Addr.mk.injEq, and_true] at hAb
      obtain ⟨rfl, rfl⟩ := hAb
      obtain ⟨v0, v1⟩ := HRg.out x (List.mem_of_getElem? hx)
      obtain ⟨x, rfl⟩ := Int.eq_ofNat_of_zero_le v0
      have hc := hbe.cell (p := ⟨b0, o0 + k, none⟩) (fun hs => hs.elim HN0.out.1 HN0.out.2) hcx
      have hs := hsum.out
      rw [dropN hx, tabT, Int.toNat_natCast, ← List.append_assoc] at hs
      obtain ⟨G, hG⟩ : ∃ G, G = l ++ moveT M x := ⟨_, rfl⟩
      rw [← hG] at hs
      have hGl : G.length ≤ 1100000 := by
        have := congrArg List.length hs
        rw [List.length_append] at this; omega
      have HG := hide hG
      have HS := hide hs
      have HK := hide (And.intro hwr.out (And.intro hrw hbe))
      clear hs hsum hx hcx hG hwr hrw hbe
      go_wp2_with fail
      go_loopw [4] (fun nw wx => ∃ (m : Nat) (rw : Option Nat) (l : List Bool), nw = .int .i64 m ∧ m ≤ 15 ∧ (m ≤ x ∨ m = M) ∧ Hid (Wr wx p rw l) ∧ rowNew w row rw ∧ Hid (l ++ moveT m x = G) ∧ Fr (wS p row) w wx) (fun nw _ => x - (intOf nw).toNat)
      case atStart => exact ⟨M, rw1, l, rfl, hM, .inr rfl, HK.out.1, HK.out.2.1, HG.out.symm, HK.out.2.2⟩
      case round =>
        clear HG HK hc
        obtain ⟨m, rw2, l2, rfl, hm, hmx, hwr, hrw, hsum, hbe⟩ := hrel
        have hl2 : l2.length ≤ 1100000 := by
          have := congrArg List.length hsum.out
          rw [List.length_append] at this; omega
        by_cases hlt2 : m < x
        · have hmv := hsum.out
          rw [moveT_up hlt2] at hmv
          have HMv := hide hmv
          have ad := add_i p rw2 l2 2 2 wr (by decide) (by decide) (by decide) (by decide) hwr.out (by simp; omega)
          have HAd2 := hide ad
          clear ad hmv hsum hwr
          go_wp2_with (go_at_call 103; refine (Calls.mono HAd2.out ?_); rintro e w3 ⟨rfl, row3, hwr3, hrn3, hfr3⟩)
          have hrow3 := hrw.trans hrn3 hbe.size
          have hbe3 := frNew hbe hrw hfr3
          go_roundw
          case rel => exact ⟨m + 1, row3, _, by go_num, by omega, .inl (by omega), hwr3, hrow3, hide (by rw [show natBits (2 : Int).toNat (2 : Int).toNat = [true, false] from rfl, List.append_assoc]; exact HMv.out), hbe3⟩
          case measure => simp [intOf]; omega
        · have HK := hide (And.intro hwr.out (And.intro hrw (And.intro hbe hsum.out)))
          clear hwr hrw hbe hsum
          go_wp2_with fail
          go_loopw [4] (fun nw wx => ∃ (m : Nat) (rw : Option Nat) (l : List Bool), nw = .int .i64 m ∧ m ≤ 15 ∧ x ≤ m ∧ Hid (Wr wx p rw l) ∧ rowNew w row rw ∧ Hid (l ++ moveT m x = G) ∧ Fr (wS p row) w wx) (fun nw _ => (intOf nw).toNat - x)
          case atStart => exact ⟨m, rw2, l2, rfl, hm, by omega, HK.out.1, HK.out.2.1, HK.out.2.2.2, HK.out.2.2.1⟩
          case round =>
            clear HK
            obtain ⟨m, rw2, l2, rfl, hm, hmx, hwr, hrw, hsum, hbe⟩ := hrel
            have hl2 : l2.length ≤ 1100000 := by
              have := congrArg List.length hsum.out
              rw [List.length_append] at this; omega
            by_cases hlt3 : x < m
            · have hmv := hsum.out
              rw [moveT_down hlt3] at hmv
              have HMv := hide hmv
              have ad := add_i p rw2 l2 3 2 wr (by decide) (by decide) (by decide) (by decide) hwr.out (by simp; omega)
              have HAd2 := hide ad
              clear ad hmv hsum hwr
              go_wp2_with (go_at_call 103; refine (Calls.mono HAd2.out ?_); rintro e w3 ⟨rfl, row3, hwr3, hrn3, hfr3⟩)
              have hrow3 := hrw.trans hrn3 hbe.size
              have hbe3 := frNew hbe hrw hfr3
              go_roundw
              case rel => exact ⟨m - 1, row3, _, v_int (by omega), by omega, by omega, hwr3, hrow3, hide (by rw [show natBits (3 : Int).toNat (2 : Int).toNat = [true, true] from rfl, List.append_assoc]; exact HMv.out), hbe3⟩
              case measure => simp [intOf]; omega
            · obtain rfl : m = x := by omega
              have hmv := hsum.out
              rw [moveT_same] at hmv
              have HMv := hide hmv
              have ad := add_i p rw2 l2 0 1 wr (by decide) (by decide) (by decide) (by decide) hwr.out (by simp; omega)
              have HAd2 := hide ad
              clear ad hmv hsum hwr
              go_wp2_with (go_at_call 103; refine (Calls.mono HAd2.out ?_); rintro e w3 ⟨rfl, row3, hwr3, hrn3, hfr3⟩)
              have hrow3 := hrw.trans hrn3 hbe.size
              have hbe3 := frNew hbe hrw hfr3
              go_roundw
              case rel => exact ⟨k + 1, m, row3, _, by omega, by go_num, rfl, hm, hwr3, hrow3, hide (by rw [show natBits (0 : Int).toNat (1 : Int).toNat = [false] from rfl, HMv.out]; exact HS.out), hbe3⟩
              case measure => simp [intOf]; omega
    · have hs := hsum.out
      rw [List.drop_eq_nil_of_le (by simp; omega), tabT, List.append_nil] at hs
      have HS := hide hs
      clear hs hsum
      go_wp2_with fail
      refine bodyPost_ret (results_none rfl _ _ _) rfl ?_
      exact ⟨rfl, rw1, by rw [← HFe.out, ← HS.out]; exact hwr.out, hrw, hbe⟩
end Go.Proofs.YtcfnjpokfodmoaaGreatDoor
/- The order of a text's ends, its last column, and the text of a column, plainly. No program in sight. -/
namespace Go.Proofs.YtcfnjpokfodmoaaGreatDoor
open Go.RowKit

/-- Which of two lists is ahead: at the first place where they part, or the one that ends. -/
def lexL : List Nat → List Nat → Bool
  | _, [] => false
  | [], _ :: _ => true
  | a :: x, b :: y => if a < b then true else if b < a then false else lexL x y
theorem lexL_cons (a b : Nat) (x y : List Nat) : lexL (a :: x) (b :: y) = true ↔ a < b ∨ (a = b ∧ lexL x y = true) := by
  rw [lexL]
  by_cases h1 : a < b
  · rw [if_pos h1]; simp [h1]
  · rw [if_neg h1]
    by_cases h2 : b < a
    · rw [if_pos h2]
      constructor
      · intro h; cases h
      · rintro (h | ⟨h, _⟩) <;> omega
    · rw [if_neg h2]
      have : a = b := by omega
      subst this
      simp
theorem lexL_irrefl (x : List Nat) : lexL x x = false := by
  induction x with
  | nil => rfl
  | cons a x ih =>
    rw [Bool.eq_false_iff]
    intro h
    rcases (lexL_cons a a x x).1 h with h | ⟨_, h⟩
    · omega
    · rw [ih] at h; cases h
theorem lexL_trans : ∀ {x y z : List Nat}, lexL x y = true → lexL y z = true → lexL x z = true := by
  intro x
  induction x with
  | nil =>
    intro y z h1 h2
    cases y with
    | nil => cases h1
    | cons b y =>
      cases z with
      | nil => cases h2
      | cons c z => rfl
  | cons a x ih =>
    intro y z h1 h2
    cases y with
    | nil => cases h1
    | cons b y =>
      cases z with
      | nil => cases h2
      | cons c z =>
        rcases (lexL_cons _ _ _ _).1 h1 with h | ⟨rfl, h⟩
        · rcases (lexL_cons _ _ _ _).1 h2 with g | ⟨rfl, g⟩
          · exact (lexL_cons _ _ _ _).2 (.inl (by omega))
          · exact (lexL_cons _ _ _ _).2 (.inl h)
        · rcases (lexL_cons _ _ _ _).1 h2 with g | ⟨rfl, g⟩
          · exact (lexL_cons _ _ _ _).2 (.inl g)
          · exact (lexL_cons _ _ _ _).2 (.inr ⟨rfl, ih h g⟩)
theorem lexL_total : ∀ {x y : List Nat}, x ≠ y → lexL x y = true ∨ lexL y x = true := by
  intro x
  induction x with
  | nil =>
    intro y h
    cases y with
    | nil => exact absurd rfl h
    | cons b y => exact .inl rfl
  | cons a x ih =>
    intro y h
    cases y with
    | nil => exact .inr rfl
    | cons b y =>
      rcases Nat.lt_trichotomy a b with g | rfl | g
      · exact .inl ((lexL_cons _ _ _ _).2 (.inl g))
      · rcases ih (y := y) (fun e => h (by rw [e])) with g | g
        · exact .inl ((lexL_cons _ _ _ _).2 (.inr ⟨rfl, g⟩))
        · exact .inr ((lexL_cons _ _ _ _).2 (.inr ⟨rfl, g⟩))
      · exact .inr ((lexL_cons _ _ _ _).2 (.inl g))
theorem lexL_asymm {x y : List Nat} (h : lexL x y = true) : lexL y x = false := by
  rw [Bool.eq_false_iff]
  intro g
  have := lexL_trans h g
  rw [lexL_irrefl] at this
  cases this

/-- Is the end from a on ahead of the one from b on? -/
def sufLt (s : List Nat) (a b : Nat) : Bool := lexL (s.drop a) (s.drop b)
/-- Ends in order. -/
structure IsEnds (s es : List Nat) : Prop where
  perm : es.Perm (List.range s.length)
  sorted : es.Pairwise fun a b => sufLt s a b = true
theorem drop_inj {s : List Nat} {a b : Nat} (ha : a ≤ s.length) (hb : b ≤ s.length) (h : s.drop a = s.drop b) : a = b := by
  have := congrArg List.length h
  rw [List.length_drop, List.length_drop] at this
  omega
theorem sufLt_total {s : List Nat} {a b : Nat} (ha : a ≤ s.length) (hb : b ≤ s.length) (h : a ≠ b) : sufLt s a b = true ∨ sufLt s b a = true := lexL_total fun e => h (drop_inj ha hb e)
theorem IsEnds.mem {s es : List Nat} (h : IsEnds s es) {k : Nat} : k ∈ es ↔ k < s.length := by rw [h.perm.mem_iff, List.mem_range]
theorem IsEnds.len {s es : List Nat} (h : IsEnds s es) : es.length = s.length := by rw [h.perm.length_eq, List.length_range]
theorem IsEnds.unique {s es es' : List Nat} (h : IsEnds s es) (h' : IsEnds s es') : es = es' := by
  refine List.Perm.eq_of_pairwise (le := fun a b => sufLt s a b = true) ?_ h.sorted h'.sorted (h.perm.trans h'.perm.symm)
  intro a b _ _ h1 h2
  rw [show sufLt s b a = false from lexL_asymm h1] at h2
  cases h2

/-- How many ends, the empty one too, are ahead of that from k on. -/
def rk (s : List Nat) (k : Nat) : Nat := (List.range (s.length + 1)).countP fun m => sufLt s m k
theorem countP_less {α : Type} {p q : α → Bool} : ∀ {l : List α}, (∀ x ∈ l, p x = true → q x = true) → (∃ x ∈ l, q x = true ∧ p x = false) → l.countP p < l.countP q := by
  intro l
  induction l with
  | nil => rintro _ ⟨x, hx, _⟩; simp at hx
  | cons a l ih =>
    rintro hs ⟨x, hx, hq, hp⟩
    rw [List.countP_cons, List.countP_cons]
    have hle : l.countP p ≤ l.countP q := List.countP_mono_left (fun y hy => hs y (List.mem_cons_of_mem _ hy))
    rcases List.mem_cons.1 hx with rfl | hx
    · rw [hq, hp]; simp; omega
    · have := ih (fun y hy => hs y (List.mem_cons_of_mem _ hy)) ⟨x, hx, hq, hp⟩
      have ha := hs a (by simp)
      by_cases h : p a = true
      · rw [h, ha h]; simp; omega
      · rw [if_neg h]; split <;> omega
theorem rk_mono {s : List Nat} {a b : Nat} (ha : a ≤ s.length) (h : sufLt s a b = true) : rk s a < rk s b :=
  countP_less (fun m _ hm => lexL_trans hm h) ⟨a, List.mem_range.2 (by omega), h, lexL_irrefl _⟩
theorem rk_inj {s : List Nat} {a b : Nat} (ha : a ≤ s.length) (hb : b ≤ s.length) (h : rk s a = rk s b) : a = b := by
  by_cases e : a = b
  · exact e
  · rcases sufLt_total ha hb e with g | g
    · have := rk_mono ha g; omega
    · have := rk_mono hb g; omega
theorem sufLt_end {s : List Nat} {k : Nat} (h : k < s.length) : sufLt s s.length k = true := by
  unfold sufLt
  rw [List.drop_length, List.drop_eq_getElem_cons h]; rfl
theorem sufLt_end' {s : List Nat} {k : Nat} : sufLt s k s.length = false := by
  unfold sufLt
  rw [List.drop_length]
  cases s.drop k <;> rfl
theorem rk_len (s : List Nat) : rk s s.length = 0 := by
  unfold rk
  rw [List.countP_eq_zero]
  intro m _
  rw [sufLt_end']
  simp
/-- In an order, as many are ahead of an element as its place says. -/
theorem countP_sorted {α : Type} {lt : α → α → Bool} (hirr : ∀ a, lt a a = false) (has : ∀ a b, lt a b = true → lt b a = false) : ∀ {l : List α}, l.Pairwise (fun a b => lt a b = true) → ∀ {i : Nat} (h : i < l.length), l.countP (fun m => lt m l[i]) = i := by
  intro l
  induction l with
  | nil => intro _ i h; simp at h
  | cons a l ih =>
    intro hp i h
    rw [List.pairwise_cons] at hp
    cases i with
    | zero =>
      rw [List.getElem_cons_zero, List.countP_eq_zero]
      intro m hm
      rcases List.mem_cons.1 hm with rfl | hm
      · rw [hirr]; simp
      · rw [has _ _ (hp.1 m hm)]; simp
    | succ i =>
      have hi : i < l.length := by simpa using h
      rw [List.getElem_cons_succ, List.countP_cons, ih hp.2 hi, hp.1 _ (List.getElem_mem hi)]; simp
/-- The rows' ends: the empty one is row 0's. -/
def rowsL (s es : List Nat) : List Nat := s.length :: es
section
variable {s es : List Nat}
theorem rowsL_sorted (h : IsEnds s es) : (rowsL s es).Pairwise fun a b => sufLt s a b = true := by
  unfold rowsL
  rw [List.pairwise_cons]
  exact ⟨fun b hb => sufLt_end (h.mem.1 hb), h.sorted⟩
theorem rowsL_perm (h : IsEnds s es) : (rowsL s es).Perm (List.range (s.length + 1)) := by
  unfold rowsL
  rw [List.range_succ]
  exact (List.Perm.cons _ h.perm).trans (List.perm_append_comm (l₁ := [s.length]))
theorem rowsL_len (h : IsEnds s es) : (rowsL s es).length = s.length + 1 := by unfold rowsL; rw [List.length_cons, h.len]
theorem rowsL_rk (h : IsEnds s es) {r : Nat} (hr : r < (rowsL s es).length) : rk s (rowsL s es)[r] = r := by
  unfold rk
  rw [← (rowsL_perm h).countP_eq]
  exact countP_sorted (lt := sufLt s) (fun a => lexL_irrefl _) (fun a b hab => lexL_asymm hab) (rowsL_sorted h) hr
theorem rowsL_mem (h : IsEnds s es) {k : Nat} : k ∈ rowsL s es ↔ k ≤ s.length := by rw [(rowsL_perm h).mem_iff, List.mem_range]; omega
theorem rk_le (h : IsEnds s es) {k : Nat} (hk : k ≤ s.length) : rk s k ≤ s.length := by
  obtain ⟨r, hr, he⟩ := List.getElem_of_mem ((rowsL_mem h).2 hk)
  have := rowsL_rk h hr
  rw [he] at this
  rw [rowsL_len h] at hr
  omega
theorem rowsL_at (h : IsEnds s es) {k : Nat} (hk : k ≤ s.length) (hr : rk s k < (rowsL s es).length) : (rowsL s es)[rk s k] = k := by
  have h1 := rowsL_rk h hr
  exact rk_inj ((rowsL_mem h).1 (List.getElem_mem hr)) hk h1
/-- The place of row 0's end among the rows, the ends of the other rows, and the column. -/
def primL (s es : List Nat) : Nat := (rowsL s es).idxOf 0
def othersL (s es : List Nat) : List Nat := (rowsL s es).eraseIdx (primL s es)
def colL (s es : List Nat) : List Nat := (othersL s es).map fun k => s.getD (k - 1) 0
theorem prim_lt (h : IsEnds s es) : primL s es < (rowsL s es).length := List.idxOf_lt_length_of_mem ((rowsL_mem h).2 (Nat.zero_le _))
theorem prim_get (h : IsEnds s es) : (rowsL s es)[primL s es]'(prim_lt h) = 0 := List.getElem_idxOf (prim_lt h)
theorem prim_rk (h : IsEnds s es) : primL s es = rk s 0 := by
  have := rowsL_rk h (prim_lt h)
  rw [prim_get h] at this
  exact this.symm
theorem othersL_len (h : IsEnds s es) : (othersL s es).length = s.length := by
  unfold othersL
  rw [List.length_eraseIdx, if_pos (prim_lt h), rowsL_len h]; omega
theorem colL_len (h : IsEnds s es) : (colL s es).length = s.length := by unfold colL; rw [List.length_map, othersL_len h]
theorem othersL_sorted (h : IsEnds s es) : (othersL s es).Pairwise fun a b => sufLt s a b = true := (rowsL_sorted h).sublist (List.eraseIdx_sublist _ _)
theorem rows_split (h : IsEnds s es) : (rowsL s es).Perm (0 :: othersL s es) := by
  unfold othersL
  have key : ∀ (l : List Nat) (p : Nat) (hp : p < l.length), l[p] = 0 → l.Perm (0 :: l.eraseIdx p) := by
    intro l p hp hg
    have e : l = l.take p ++ 0 :: l.drop (p + 1) := by rw [← hg, ← List.drop_eq_getElem_cons hp, List.take_append_drop]
    conv => lhs; rw [e]
    rw [List.eraseIdx_eq_take_drop_succ]
    exact List.perm_middle
  exact key _ _ (prim_lt h) (prim_get h)
theorem others_pos (h : IsEnds s es) {k : Nat} (hk : k ∈ othersL s es) : 1 ≤ k ∧ k ≤ s.length := by
  have hn : (0 :: othersL s es).Nodup := (rows_split h).nodup_iff.1 ((rowsL_perm h).nodup_iff.2 List.nodup_range)
  rw [List.nodup_cons] at hn
  have h1 : k ∈ rowsL s es := (rows_split h).mem_iff.2 (List.mem_cons_of_mem _ hk)
  have h2 := (rowsL_mem h).1 h1
  refine ⟨?_, h2⟩
  rcases Nat.eq_zero_or_pos k with rfl | g
  · exact absurd hk hn.1
  · exact g
theorem others_pred (h : IsEnds s es) : ((othersL s es).map fun k => k - 1).Perm (List.range s.length) := by
  have h1 : (0 :: othersL s es).Perm (List.range (s.length + 1)) := (rows_split h).symm.trans (rowsL_perm h)
  rw [List.range_succ_eq_map] at h1
  have h2 := (List.perm_cons 0).1 h1
  have h3 := h2.map fun k => k - 1
  rw [List.map_map] at h3
  refine h3.trans ?_
  have : (List.range s.length).map ((fun k => k - 1) ∘ Nat.succ) = List.range s.length := by
    conv => rhs; rw [← List.map_id (List.range s.length)]
    apply List.map_congr_left
    intro k _
    simp
  rw [this]
/-- Where, among the other rows, row r is. -/
def atR (p r : Nat) : Nat := if p < r then r - 1 else r
theorem others_at (h : IsEnds s es) {r : Nat} (hr : r < (rowsL s es).length) (hne : r ≠ primL s es) : (othersL s es)[atR (primL s es) r]? = some (rowsL s es)[r] := by
  unfold othersL atR
  rw [List.getElem?_eraseIdx]
  by_cases g : primL s es < r
  · rw [if_pos g, if_neg (by omega), Nat.sub_add_cancel (by omega), List.getElem?_eq_getElem hr]
  · rw [if_neg g, if_pos (by omega), List.getElem?_eq_getElem hr]
end
/-- The row that begins with the byte at a column's place. -/
def rowP (c : List Nat) (i : Nat) : Nat := 1 + c.countP (fun y => decide (y < c.getD i 0)) + (c.take i).count (c.getD i 0)
theorem sufLt_step {s : List Nat} {a b : Nat} (ha : a < s.length) (hb : b < s.length) : sufLt s a b = true ↔ s.getD a 0 < s.getD b 0 ∨ (s.getD a 0 = s.getD b 0 ∧ sufLt s (a + 1) (b + 1) = true) := by
  unfold sufLt
  rw [List.drop_eq_getElem_cons ha, List.drop_eq_getElem_cons hb, lexL_cons, List.getD_eq_getElem?_getD, List.getD_eq_getElem?_getD, List.getElem?_eq_getElem ha, List.getElem?_eq_getElem hb]; rfl
theorem rowP_split (c : List Nat) {i : Nat} (hi : i < c.length) : rowP c i = 1 + (c.take i).countP (fun y => decide (y ≤ c.getD i 0)) + (c.drop (i + 1)).countP (fun y => decide (y < c.getD i 0)) := by
  unfold rowP
  generalize hx : c.getD i 0 = x
  have hc : c[i] = x := by rw [← hx, List.getD_eq_getElem?_getD, List.getElem?_eq_getElem hi]; rfl
  have e : c = c.take i ++ x :: c.drop (i + 1) := by rw [← hc, ← List.drop_eq_getElem_cons hi, List.take_append_drop]
  have h1 : c.countP (fun y => decide (y < x)) = (c.take i).countP (fun y => decide (y < x)) + (c.drop (i + 1)).countP (fun y => decide (y < x)) := by
    conv => lhs; rw [e]
    rw [List.countP_append, List.countP_cons]; simp
  have h2 : ∀ l : List Nat, l.countP (fun y => decide (y ≤ x)) = l.countP (fun y => decide (y < x)) + l.count x := by
    intro l
    induction l with
    | nil => rfl
    | cons y l ih =>
      rw [List.countP_cons, List.countP_cons, List.count_cons, ih]
      rcases Nat.lt_trichotomy y x with g | g | g
      · simp [g, Nat.le_of_lt g, Nat.ne_of_lt g]; omega
      · simp [g]; omega
      · simp [Nat.not_le.2 g, Nat.not_lt.2 (Nat.le_of_lt g), Nat.ne_of_gt g]
  rw [h1, h2]; omega
section
variable {s es : List Nat}
theorem col_get (i : Nat) : (colL s es)[i]? = (othersL s es)[i]?.map fun k => s.getD (k - 1) 0 := by unfold colL; rw [List.getElem?_map]
/-- The byte at a place begins the end that is one longer. -/
theorem rowP_rk (h : IsEnds s es) {i k : Nat} (hk : (othersL s es)[i]? = some k) : rowP (colL s es) i = rk s (k - 1) := by
  obtain ⟨hi, rfl⟩ := List.getElem?_eq_some_iff.1 hk
  have hic : i < (colL s es).length := by rw [colL_len h, ← othersL_len h]; exact hi
  have hkp := others_pos h (List.getElem_mem hi)
  have hx : (colL s es).getD i 0 = s.getD ((othersL s es)[i] - 1) 0 := by rw [List.getD_eq_getElem?_getD, col_get, hk]; rfl
  rw [rowP_split _ hic, hx]
  unfold rk
  rw [List.range_succ, List.countP_append, List.countP_singleton, if_pos (sufLt_end (by omega)), ← (others_pred h).countP_eq, List.countP_map]
  have e : othersL s es = (othersL s es).take i ++ (othersL s es)[i] :: (othersL s es).drop (i + 1) := by rw [← List.drop_eq_getElem_cons hi, List.take_append_drop]
  have hso := othersL_sorted h
  have hpos := fun q (hq : q ∈ othersL s es) => others_pos h hq
  generalize (othersL s es)[i] = k at *
  generalize hO : othersL s es = O at *
  have hcol : colL s es = O.map fun q => s.getD (q - 1) 0 := by unfold colL; rw [hO]
  have hmt : ∀ q ∈ O.take i, q ∈ O := fun q hq => List.mem_of_mem_take hq
  have hmd : ∀ q ∈ O.drop (i + 1), q ∈ O := fun q hq => List.mem_of_mem_drop hq
  rw [e, List.pairwise_append] at hso
  rw [hcol, ← List.map_take, ← List.map_drop, List.countP_map, List.countP_map]
  conv => rhs; rw [e, List.countP_append, List.countP_cons]
  have hkk : ((fun m => sufLt s m (k - 1)) ∘ fun k => k - 1) k = false := lexL_irrefl _
  rw [hkk]
  have h1 : (O.take i).countP ((fun y => decide (y ≤ s.getD (k - 1) 0)) ∘ fun q => s.getD (q - 1) 0) = (O.take i).countP ((fun m => sufLt s m (k - 1)) ∘ fun k => k - 1) := by
    apply List.countP_congr
    intro q hq
    have hqp := hpos q (hmt q hq)
    have hlt : sufLt s q k = true := hso.2.2 q hq k (by simp)
    have := sufLt_step (s := s) (a := q - 1) (b := k - 1) (by omega) (by omega)
    rw [Nat.sub_add_cancel hqp.1, Nat.sub_add_cancel hkp.1] at this
    simp only [Function.comp, decide_eq_true_eq]
    rw [this]
    simp only [hlt, and_true]
    omega
  have h2 : (O.drop (i + 1)).countP ((fun y => decide (y < s.getD (k - 1) 0)) ∘ fun q => s.getD (q - 1) 0) = (O.drop (i + 1)).countP ((fun m => sufLt s m (k - 1)) ∘ fun k => k - 1) := by
    apply List.countP_congr
    intro q hq
    have hqp := hpos q (hmd q hq)
    have hlt : sufLt s q k = false := lexL_asymm ((List.pairwise_cons.1 hso.2.1).1 q hq)
    have := sufLt_step (s := s) (a := q - 1) (b := k - 1) (by omega) (by omega)
    rw [Nat.sub_add_cancel hqp.1, Nat.sub_add_cancel hkp.1] at this
    simp only [Function.comp, decide_eq_true_eq]
    rw [this]
    simp [hlt]
  rw [h1, h2]
  simp
  omega
/-- A text's bytes, from its end on, k of them, row by row. -/
def textW (c : List Nat) (p : Nat) : Nat → Nat → List Nat → Option (List Nat)
  | 0, row, acc => if row = p then some acc else none
  | k + 1, row, acc => if row = p then none else textW c p k (rowP c (atR p row)) (c.getD (atR p row) 0 :: acc)
theorem textW_back (h : IsEnds s es) : ∀ k, k ≤ s.length → textW (colL s es) (primL s es) k (rk s k) (s.drop k) = some s := by
  intro k
  induction k with
  | zero => intro _; rw [textW, if_pos (prim_rk h).symm]; rfl
  | succ k ih =>
    intro hk
    have hne : rk s (k + 1) ≠ primL s es := by
      rw [prim_rk h]
      intro e
      have := rk_inj hk (Nat.zero_le _) e
      omega
    have hr : rk s (k + 1) < (rowsL s es).length := by rw [rowsL_len h]; have := rk_le h hk; omega
    have ha := others_at h hr hne
    rw [rowsL_at h hk hr] at ha
    rw [textW, if_neg hne, rowP_rk h ha, Nat.add_sub_cancel]
    have hc : (colL s es).getD (atR (primL s es) (rk s (k + 1))) 0 = s.getD k 0 := by rw [List.getD_eq_getElem?_getD, col_get, ha]; rfl
    have hd : s.getD k 0 :: s.drop (k + 1) = s.drop k := by
      rw [List.drop_eq_getElem_cons (i := k) (by omega), List.getD_eq_getElem?_getD, List.getElem?_eq_getElem (by omega)]; rfl
    rw [hc, hd]
    exact ih (by omega)
theorem text_col (h : IsEnds s es) : textW (colL s es) (primL s es) s.length 0 [] = some s := by
  have := textW_back h s.length (Nat.le_refl _)
  rwa [rk_len, List.drop_length] at this
end
end Go.Proofs.YtcfnjpokfodmoaaGreatDoor
/- Places by as many numbers as are known, and by twice as many, plainly. No program in sight. -/
namespace Go.Proofs.YtcfnjpokfodmoaaGreatDoor
open Go.RowKit

/-- A list's first k numbers from a place on. -/
def pre (s : List Nat) (k a : Nat) : List Nat := (s.drop a).take k
/-- Places in order of those. -/
structure RankOK (s : List Nat) (k : Nat) (rank : List Nat) : Prop where
  len : rank.length = s.length
  lt : ∀ a, a < s.length → rank.getD a 0 < s.length
  iff : ∀ a b, a < s.length → b < s.length → (rank.getD a 0 < rank.getD b 0 ↔ lexL (pre s k a) (pre s k b) = true)
def behindL (rank : List Nat) (k i : Nat) : Nat := if i + k < rank.length then rank.getD (i + k) 0 + 1 else 0
def cmpN (a b : Nat) : Int := if a < b then -1 else if b < a then 1 else 0
def cmpD (rank : List Nat) (k a b : Nat) : Int := if cmpN (rank.getD a 0) (rank.getD b 0) = 0 then cmpN (behindL rank k a) (behindL rank k b) else cmpN (rank.getD a 0) (rank.getD b 0)
def lessD (rank : List Nat) (k a b : Nat) : Bool := decide (cmpD rank k a b < 0)
theorem cmpN_zero (a b : Nat) : cmpN a b = 0 ↔ a = b := by unfold cmpN; split <;> (try split) <;> omega
theorem cmpN_neg (a b : Nat) : cmpN a b < 0 ↔ a < b := by unfold cmpN; split <;> (try split) <;> omega
theorem lessD_iff (rank : List Nat) (k a b : Nat) : lessD rank k a b = true ↔ rank.getD a 0 < rank.getD b 0 ∨ (rank.getD a 0 = rank.getD b 0 ∧ behindL rank k a < behindL rank k b) := by
  unfold lessD cmpD
  rw [decide_eq_true_eq]
  by_cases h : rank.getD a 0 = rank.getD b 0
  · rw [if_pos ((cmpN_zero _ _).2 h), cmpN_neg]; omega
  · rw [if_neg (fun e => h ((cmpN_zero _ _).1 e)), cmpN_neg]; omega
theorem lexL_app : ∀ {x y x' y' : List Nat}, lexL x y = true → (x' = [] ∨ y.length ≤ x.length) → lexL (x ++ x') (y ++ y') = true := by
  intro x
  induction x with
  | nil =>
    intro y x' y' h g
    cases y with
    | nil => cases h
    | cons b y =>
      rcases g with rfl | g
      · rfl
      · simp at g
  | cons a x ih =>
    intro y x' y' h g
    cases y with
    | nil => cases h
    | cons b y =>
      rw [List.cons_append, List.cons_append]
      rcases (lexL_cons _ _ _ _).1 h with h1 | ⟨h1, h2⟩
      · exact (lexL_cons _ _ _ _).2 (.inl h1)
      · exact (lexL_cons _ _ _ _).2 (.inr ⟨h1, ih h2 (g.imp id fun g => by simpa using g)⟩)
theorem lexL_same : ∀ (x : List Nat) {x' y' : List Nat}, lexL (x ++ x') (x ++ y') = lexL x' y' := by
  intro x
  induction x with
  | nil => intro x' y'; rfl
  | cons a x ih =>
    intro x' y'
    rw [Bool.eq_iff_iff, List.cons_append, List.cons_append, lexL_cons, ih]
    simp
theorem pre_length (s : List Nat) (k a : Nat) : (pre s k a).length = min k (s.length - a) := by unfold pre; rw [List.length_take, List.length_drop]
theorem pre_two (s : List Nat) (k a : Nat) : pre s (k + k) a = pre s k a ++ pre s k (a + k) := by
  unfold pre
  rw [List.take_add, List.drop_drop]
theorem pre_end {s : List Nat} {k a : Nat} (h : s.length ≤ a) : pre s k a = [] := by unfold pre; rw [List.drop_eq_nil_of_le h, List.take_nil]
theorem RankOK.eq_iff {s : List Nat} {k : Nat} {rank : List Nat} (h : RankOK s k rank) {a b : Nat} (ha : a < s.length) (hb : b < s.length) : rank.getD a 0 = rank.getD b 0 ↔ pre s k a = pre s k b := by
  constructor
  · intro e
    by_cases g : pre s k a = pre s k b
    · exact g
    · rcases lexL_total g with g | g
      · have := (h.iff a b ha hb).2 g; omega
      · have := (h.iff b a hb ha).2 g; omega
  · intro e
    have h1 := h.iff a b ha hb
    have h2 := h.iff b a hb ha
    rw [e, lexL_irrefl] at h1 h2
    have h3 : ¬ rank.getD a 0 < rank.getD b 0 := fun g => by have := h1.1 g; cases this
    have h4 : ¬ rank.getD b 0 < rank.getD a 0 := fun g => by have := h2.1 g; cases this
    omega
/-- By twice as many. -/
theorem lessD_lex {s : List Nat} {k : Nat} {rank : List Nat} (h : RankOK s k rank) (hk : 1 ≤ k) {a b : Nat} (ha : a < s.length) (hb : b < s.length) : lessD rank k a b = true ↔ lexL (pre s (k + k) a) (pre s (k + k) b) = true := by
  have key : ∀ {a b : Nat}, a < s.length → b < s.length → lexL (pre s k a) (pre s k b) = true → lexL (pre s (k + k) a) (pre s (k + k) b) = true := by
    intro a b ha hb hl
    rw [pre_two, pre_two]
    refine lexL_app hl ?_
    rw [pre_length, pre_length]
    by_cases g : a + k < s.length
    · right; omega
    · left; exact pre_end (by omega)
  rw [lessD_iff]
  by_cases e : pre s k a = pre s k b
  · have hr := (h.eq_iff ha hb).2 e
    rw [pre_two, pre_two, e, lexL_same]
    by_cases hab : a = b
    · subst hab
      rw [lexL_irrefl]
      simp
    · have hl := congrArg List.length e
      rw [pre_length, pre_length] at hl
      unfold behindL
      rw [h.len]
      by_cases ga : a + k < s.length
      · rw [if_pos ga]
        by_cases gb : b + k < s.length
        · rw [if_pos gb, ← h.iff _ _ ga gb]; omega
        · rw [if_neg gb, pre_end (a := b + k) (by omega)]
          have : lexL (pre s k (a + k)) [] = false := by cases pre s k (a + k) <;> rfl
          rw [this]
          constructor
          · intro h; omega
          · intro h; cases h
      · rw [if_neg ga, pre_end (a := a + k) (by omega)]
        by_cases gb : b + k < s.length
        · rw [if_pos gb]
          have : lexL [] (pre s k (b + k)) = true := by
            have h1 := pre_length s k (b + k)
            cases hp : pre s k (b + k) with
            | nil => rw [hp] at h1; simp at h1; omega
            | cons x l => rfl
          rw [this]
          constructor
          · intro _; rfl
          · intro _; right; omega
        · omega
  · rcases lexL_total e with g | g
    · have h1 := (h.iff a b ha hb).2 g
      rw [key ha hb g]
      constructor
      · intro _; rfl
      · intro _; exact .inl h1
    · have h1 := (h.iff b a hb ha).2 g
      rw [lexL_asymm (key hb ha g)]
      constructor
      · intro h; omega
      · intro h; cases h
/-- What places in order are ranked by. -/
def outD (lt : Nat → Nat → Bool) (es : List Nat) (n : Nat) : Nat → List Nat
  | 0 => List.replicate n 0
  | j + 1 => (outD lt es n j).set (es.getD (j + 1) 0) ((outD lt es n j).getD (es.getD j 0) 0 + if lt (es.getD j 0) (es.getD (j + 1) 0) then 1 else 0)
def cntD (lt : Nat → Nat → Bool) (es : List Nat) : Nat → Nat
  | 0 => 0
  | j + 1 => cntD lt es j + if lt (es.getD j 0) (es.getD (j + 1) 0) then 1 else 0
theorem outD_length (lt : Nat → Nat → Bool) (es : List Nat) (n : Nat) : ∀ j, (outD lt es n j).length = n := by
  intro j
  induction j with
  | zero => simp [outD]
  | succ j ih => rw [outD, List.length_set, ih]
theorem cntD_le (lt : Nat → Nat → Bool) (es : List Nat) : ∀ j, cntD lt es j ≤ j := by
  intro j
  induction j with
  | zero => exact Nat.le_refl 0
  | succ j ih => rw [cntD]; split <;> omega
theorem getD_injD {es : List Nat} (hn : es.Nodup) {i j : Nat} (hi : i < es.length) (hj : j < es.length) (h : es.getD i 0 = es.getD j 0) : i = j := by
  rw [List.getD_eq_getElem?_getD, List.getD_eq_getElem?_getD, List.getElem?_eq_getElem hi, List.getElem?_eq_getElem hj] at h
  exact (List.getElem_inj hn (h₀ := hi) (h₁ := hj)).1 h
theorem outD_get {lt : Nat → Nat → Bool} {es : List Nat} {n : Nat} (hp : es.Perm (List.range n)) : ∀ j, j < n → ∀ i, i ≤ j → (outD lt es n j).getD (es.getD i 0) 0 = cntD lt es i := by
  have hl : es.length = n := by rw [hp.length_eq, List.length_range]
  have hnd : es.Nodup := hp.nodup_iff.2 List.nodup_range
  have hlt : ∀ i, i < n → es.getD i 0 < n := by
    intro i hi
    rw [List.getD_eq_getElem?_getD, List.getElem?_eq_getElem (by omega)]
    exact List.mem_range.1 (hp.mem_iff.1 (List.getElem_mem (by omega)))
  intro j
  induction j with
  | zero =>
    intro _ i hi
    obtain rfl : i = 0 := by omega
    rw [outD, cntD, List.getD_eq_getElem?_getD, List.getElem?_replicate]
    split <;> rfl
  | succ j ih =>
    intro hj i hi
    have h1 := ih (by omega)
    rw [outD, List.getD_eq_getElem?_getD, List.getElem?_set]
    by_cases e : i = j + 1
    · subst e
      rw [if_pos rfl, if_pos (by rw [outD_length]; exact hlt _ hj), h1 j (Nat.le_refl j)]
      rfl
    · rw [if_neg (fun g => e (getD_injD hnd (by omega) (by omega) g).symm), ← List.getD_eq_getElem?_getD]
      exact h1 i (by omega)
theorem cnt_iff {P : Nat → List Nat} {n : Nat} (hs : ∀ i j, i < j → j < n → lexL (P j) (P i) = false) {c : Nat → Nat} (hc : ∀ j, j + 1 < n → c (j + 1) = c j + if lexL (P j) (P (j + 1)) then 1 else 0) :
    ∀ {i j : Nat}, i ≤ j → j < n → c i ≤ c j ∧ (c i < c j ↔ lexL (P i) (P j) = true) := by
  intro i j
  induction j with
  | zero =>
    intro hi _
    obtain rfl : i = 0 := by omega
    rw [lexL_irrefl]; simp
  | succ j ih =>
    intro hi hj
    by_cases e : i = j + 1
    · subst e; rw [lexL_irrefl]; simp
    · have h1 := ih (by omega) (by omega)
      rw [hc j hj]
      by_cases g : lexL (P j) (P (j + 1)) = true
      · rw [if_pos g]
        refine ⟨by omega, fun _ => ?_, fun _ => by omega⟩
        by_cases g2 : P i = P j
        · rw [g2]; exact g
        · rcases lexL_total g2 with g3 | g3
          · exact lexL_trans g3 g
          · have : i ≠ j := fun e => g2 (by rw [e])
            rw [hs i j (by omega) (by omega)] at g3; cases g3
      · rw [if_neg g, Nat.add_zero]
        have : P j = P (j + 1) := by
          by_cases g2 : P j = P (j + 1)
          · exact g2
          · rcases lexL_total g2 with g3 | g3
            · exact absurd g3 g
            · rw [hs j (j + 1) (by omega) hj] at g3; cases g3
        rw [← this]
        exact h1
/-- Places in order by twice as many numbers: what they are ranked by. -/
theorem rank_two {s es : List Nat} {k : Nat} {rank : List Nat} (h : RankOK s k rank) (hk : 1 ≤ k) (hp : es.Perm (List.range s.length)) (hs : ∀ i j, i < j → j < s.length → lessD rank k (es.getD j 0) (es.getD i 0) = false) :
    RankOK s (k + k) (outD (lessD rank k) es s.length (s.length - 1)) ∧ ∀ i j, i < j → j < s.length → lexL (pre s (k + k) (es.getD j 0)) (pre s (k + k) (es.getD i 0)) = false := by
  have hl : es.length = s.length := by rw [hp.length_eq, List.length_range]
  have hlt : ∀ i, i < s.length → es.getD i 0 < s.length := by
    intro i hi
    rw [List.getD_eq_getElem?_getD, List.getElem?_eq_getElem (by omega)]
    exact List.mem_range.1 (hp.mem_iff.1 (List.getElem_mem (by omega)))
  have hlx : ∀ i j, i < s.length → j < s.length → (lessD rank k (es.getD i 0) (es.getD j 0) = true ↔ lexL (pre s (k + k) (es.getD i 0)) (pre s (k + k) (es.getD j 0)) = true) := fun i j hi hj => lessD_lex h hk (hlt i hi) (hlt j hj)
  have hs2 : ∀ i j, i < j → j < s.length → lexL (pre s (k + k) (es.getD j 0)) (pre s (k + k) (es.getD i 0)) = false := by
    intro i j hij hj
    have h1 := hs i j hij hj
    rw [Bool.eq_false_iff] at h1 ⊢
    exact fun e => h1 ((hlx j i hj (by omega)).2 e)
  refine ⟨⟨outD_length _ _ _ _, ?_, ?_⟩, hs2⟩
  · intro a ha
    obtain ⟨i, hi, rfl⟩ := List.getElem_of_mem (hp.mem_iff.2 (List.mem_range.2 ha))
    have := outD_get (lt := lessD rank k) hp (s.length - 1) (by omega) i (by omega)
    rw [List.getD_eq_getElem?_getD (l := es), List.getElem?_eq_getElem hi] at this
    have h2 := cntD_le (lessD rank k) es i
    show (outD (lessD rank k) es s.length (s.length - 1)).getD es[i] 0 < _
    rw [show (outD (lessD rank k) es s.length (s.length - 1)).getD es[i] 0 = cntD (lessD rank k) es i from this]
    omega
  · intro a b ha hb
    obtain ⟨i, hi, rfl⟩ := List.getElem_of_mem (hp.mem_iff.2 (List.mem_range.2 ha))
    obtain ⟨j, hj, rfl⟩ := List.getElem_of_mem (hp.mem_iff.2 (List.mem_range.2 hb))
    have o := outD_get (lt := lessD rank k) hp (s.length - 1) (by omega)
    have ei : es[i] = es.getD i 0 := by rw [List.getD_eq_getElem?_getD, List.getElem?_eq_getElem hi]; rfl
    have ej : es[j] = es.getD j 0 := by rw [List.getD_eq_getElem?_getD, List.getElem?_eq_getElem hj]; rfl
    rw [ei, ej, o i (by omega), o j (by omega)]
    have hcn := fun {i j : Nat} => cnt_iff (i := i) (j := j) (P := fun i => pre s (k + k) (es.getD i 0)) (n := s.length) hs2 (c := cntD (lessD rank k) es) (fun j hj => by
      rw [cntD]
      congr 1
      by_cases g : lessD rank k (es.getD j 0) (es.getD (j + 1) 0) = true
      · rw [if_pos g, if_pos ((hlx j (j + 1) (by omega) hj).1 g)]
      · rw [if_neg g, if_neg (fun e => g ((hlx j (j + 1) (by omega) hj).2 e))])
    rcases Nat.le_total i j with g | g
    · exact (hcn g (by omega)).2
    · by_cases e : i = j
      · subst e; rw [lexL_irrefl]; simp
      · have h1 := (hcn g (by omega)).1
        rw [hs2 j i (by omega) (by omega)]
        constructor
        · intro h; omega
        · intro h; cases h
/-- By all their numbers: the order of the ends. -/
theorem ends_of {s es : List Nat} {m : Nat} (hp : es.Perm (List.range s.length)) (hs : ∀ i j, i < j → j < s.length → lexL (pre s m (es.getD j 0)) (pre s m (es.getD i 0)) = false) (hm : s.length ≤ m) : IsEnds s es := by
  have hl : es.length = s.length := by rw [hp.length_eq, List.length_range]
  have hnd : es.Nodup := hp.nodup_iff.2 List.nodup_range
  refine ⟨hp, ?_⟩
  rw [List.pairwise_iff_getElem]
  intro i j hi hj hij
  have h1 := hs i j hij (by omega)
  rw [List.getD_eq_getElem?_getD, List.getD_eq_getElem?_getD, List.getElem?_eq_getElem hi, List.getElem?_eq_getElem hj] at h1
  simp only [Option.getD_some] at h1
  unfold pre at h1
  rw [List.take_of_length_le (by rw [List.length_drop]; omega), List.take_of_length_le (by rw [List.length_drop]; omega)] at h1
  have ha : es[i] < s.length := List.mem_range.1 (hp.mem_iff.1 (List.getElem_mem hi))
  have hb : es[j] < s.length := List.mem_range.1 (hp.mem_iff.1 (List.getElem_mem hj))
  rcases sufLt_total (s := s) (a := es[i]) (b := es[j]) (by omega) (by omega) (fun e => by have := (List.getElem_inj hnd).1 e; omega) with g | g
  · exact g
  · unfold sufLt at g; rw [h1] at g; cases g
/-- By one number. -/
theorem rank_one {s d rank : List Nat} (hd : d.Pairwise fun a b => a < b) (hl : rank.length = s.length) (hdl : d.length ≤ s.length) (hr : ∀ a, a < s.length → rank.getD a 0 < d.length ∧ d.getD (rank.getD a 0) 0 = s.getD a 0) : RankOK s 1 rank := by
  refine ⟨hl, fun a ha => Nat.lt_of_lt_of_le (hr a ha).1 hdl, fun a b ha hb => ?_⟩
  have e : ∀ a, a < s.length → pre s 1 a = [s.getD a 0] := by
    intro a ha
    unfold pre
    rw [List.drop_eq_getElem_cons ha, List.getD_eq_getElem?_getD, List.getElem?_eq_getElem ha]; rfl
  rw [e a ha, e b hb, lexL_cons]
  obtain ⟨h1, h2⟩ := hr a ha
  obtain ⟨h3, h4⟩ := hr b hb
  rw [← h2, ← h4]
  generalize rank.getD a 0 = x at *
  generalize rank.getD b 0 = y at *
  rw [List.pairwise_iff_getElem] at hd
  have hm : ∀ x y, x < y → y < d.length → d.getD x 0 < d.getD y 0 := by
    intro x y hxy hy
    have := hd x y (by omega) hy hxy
    rw [List.getD_eq_getElem?_getD, List.getD_eq_getElem?_getD, List.getElem?_eq_getElem hy, List.getElem?_eq_getElem (by omega)]
    exact this
  have h5 : lexL [] [] = false := rfl
  rw [h5]
  constructor
  · intro h; exact .inl (hm x y h h3)
  · rintro (h | ⟨_, h⟩)
    · rcases Nat.lt_trichotomy x y with g | rfl | g
      · exact g
      · omega
      · have := hm y x g h1; omega
    · cases h
end Go.Proofs.YtcfnjpokfodmoaaGreatDoor
/- A column that is read as a text is that text's, plainly. No program in sight. -/
namespace Go.Proofs.YtcfnjpokfodmoaaGreatDoor
open Go.RowKit

theorem perm_range {n : Nat} {l : List Nat} (hn : l.Nodup) (h : ∀ x ∈ l, x < n) (hl : l.length = n) : l.Perm (List.range n) := by
  rw [List.perm_iff_count]
  intro x
  rw [hn.count, List.nodup_range.count]
  by_cases g : x < n
  · rw [if_pos (nodup_full hn h hl g), if_pos (List.mem_range.2 g)]
  · rw [if_neg (fun e => g (h x e)), if_neg (fun e => g (List.mem_range.1 e))]
theorem textW_rows {c : List Nat} {p : Nat} : ∀ {k row : Nat} {acc t : List Nat}, textW c p k row acc = some t →
    ∃ ρ : Nat → Nat, ρ k = row ∧ (∀ j, j < k → ρ (j + 1) ≠ p ∧ ρ j = rowP c (atR p (ρ (j + 1)))) ∧ ρ 0 = p ∧ t = ((List.range k).map fun j => c.getD (atR p (ρ (j + 1))) 0) ++ acc := by
  intro k
  induction k with
  | zero =>
    intro row acc t h
    rw [textW] at h
    by_cases e : row = p
    · rw [if_pos e] at h
      cases h
      exact ⟨fun _ => row, rfl, fun j hj => by omega, e, rfl⟩
    · rw [if_neg e] at h; cases h
  | succ k ih =>
    intro row acc t h
    rw [textW] at h
    by_cases e : row = p
    · rw [if_pos e] at h; cases h
    · rw [if_neg e] at h
      obtain ⟨ρ, h1, h2, h3, h4⟩ := ih h
      refine ⟨fun j => if j = k + 1 then row else ρ j, if_pos rfl, fun j hj => ?_, ?_, ?_⟩
      · by_cases g : j = k
        · subst g
          show (if j + 1 = j + 1 then row else ρ (j + 1)) ≠ p ∧ (if j = j + 1 then row else ρ j) = rowP c (atR p (if j + 1 = j + 1 then row else ρ (j + 1)))
          rw [if_pos rfl, if_neg (show ¬ j = j + 1 by omega)]
          exact ⟨e, h1⟩
        · show (if j + 1 = k + 1 then row else ρ (j + 1)) ≠ p ∧ (if j = k + 1 then row else ρ j) = rowP c (atR p (if j + 1 = k + 1 then row else ρ (j + 1)))
          rw [if_neg (show ¬ j + 1 = k + 1 by omega), if_neg (show ¬ j = k + 1 by omega)]
          exact h2 j (by omega)
      · exact h3
      · rw [h4, List.range_succ, List.map_append, List.append_assoc]
        have e1 : (List.range k).map (fun j => c.getD (atR p (ρ (j + 1))) 0) = (List.range k).map (fun j => c.getD (atR p (if j + 1 = k + 1 then row else ρ (j + 1))) 0) := by
          apply List.map_congr_left
          intro j hj
          rw [if_neg (by have := List.mem_range.1 hj; omega)]
        rw [e1]
        simp
theorem count_take_succ {c : List Nat} {i : Nat} (hi : i < c.length) : (c.take (i + 1)).count (c.getD i 0) = (c.take i).count (c.getD i 0) + 1 := by
  rw [List.take_add_one, List.getElem?_eq_getElem hi, List.getD_eq_getElem?_getD, List.getElem?_eq_getElem hi, List.count_append]
  simp
theorem countP_two (c : List Nat) {x y : Nat} (h : x < y) : c.countP (fun z => decide (z < x)) + c.count x ≤ c.countP (fun z => decide (z < y)) := by
  induction c with
  | nil => simp
  | cons z c ih =>
    rw [List.countP_cons, List.countP_cons, List.count_cons]
    rcases Nat.lt_trichotomy z x with g | g | g
    · simp [g, Nat.lt_trans g h, Nat.ne_of_lt g]; omega
    · simp [g, h]; omega
    · simp [Nat.not_lt.2 (Nat.le_of_lt g), Nat.ne_of_gt g]; omega
theorem rowP_mono {c : List Nat} {i j : Nat} (hi : i < c.length) (hj : j < c.length) (h : c.getD i 0 < c.getD j 0 ∨ (c.getD i 0 = c.getD j 0 ∧ i < j)) : rowP c i < rowP c j := by
  have h1 := count_take_succ hi
  unfold rowP
  rcases h with h | ⟨h, g⟩
  · have h2 := countP_two c h
    have h3 : (c.take (i + 1)).count (c.getD i 0) ≤ c.count (c.getD i 0) := (List.take_sublist _ _).count_le _
    omega
  · rw [← h]
    have h3 : (c.take (i + 1)).count (c.getD i 0) ≤ (c.take j).count (c.getD i 0) := by
      have : c.take (i + 1) = (c.take j).take (i + 1) := by rw [List.take_take, Nat.min_eq_left (by omega)]
      rw [this]
      exact (List.take_sublist _ _).count_le _
    omega
theorem rowP_iff {c : List Nat} {i j : Nat} (hi : i < c.length) (hj : j < c.length) : rowP c i < rowP c j ↔ (c.getD i 0 < c.getD j 0 ∨ (c.getD i 0 = c.getD j 0 ∧ i < j)) := by
  constructor
  · intro h
    by_cases g : c.getD i 0 < c.getD j 0 ∨ (c.getD i 0 = c.getD j 0 ∧ i < j)
    · exact g
    · by_cases e : i = j
      · subst e; omega
      · have := rowP_mono hj hi (by omega)
        omega
  · exact rowP_mono hi hj
theorem rowP_pos (c : List Nat) (i : Nat) : 1 ≤ rowP c i := by unfold rowP; omega
theorem countP_le_all (c : List Nat) (x : Nat) : c.countP (fun z => decide (z < x)) + c.count x ≤ c.length := by
  induction c with
  | nil => simp
  | cons z c ih =>
    rw [List.countP_cons, List.count_cons, List.length_cons]
    rcases Nat.lt_trichotomy z x with g | g | g
    · simp [g, Nat.ne_of_lt g]; omega
    · simp [g]; omega
    · simp [Nat.not_lt.2 (Nat.le_of_lt g), Nat.ne_of_gt g]; omega
theorem rowP_le {c : List Nat} {i : Nat} (hi : i < c.length) : rowP c i ≤ c.length := by
  have h1 := count_take_succ hi
  have h3 : (c.take (i + 1)).count (c.getD i 0) ≤ c.count (c.getD i 0) := (List.take_sublist _ _).count_le _
  have := countP_le_all c (c.getD i 0)
  unfold rowP
  omega
theorem atR_lt {n p r : Nat} (hr : r ≤ n) (hp : p ≤ n) (hne : r ≠ p) : atR p r < n := by unfold atR; split <;> omega
theorem atR_mono {p r q : Nat} (hr : r ≠ p) (hq : q ≠ p) : atR p r < atR p q ↔ r < q := by unfold atR; split <;> split <;> omega
theorem col_text {c t es : List Nat} {p : Nat} (hp : p ≤ c.length) (h : textW c p c.length 0 [] = some t) (he : IsEnds t es) : t.length = c.length ∧ colL t es = c ∧ primL t es = p := by
  obtain ⟨ρ, h1, h2, h3, h4⟩ := textW_rows h
  rw [List.append_nil] at h4
  have hlen : t.length = c.length := by rw [h4, List.length_map, List.length_range]
  have hget : ∀ j, j < c.length → t.getD j 0 = c.getD (atR p (ρ (j + 1))) 0 := by
    intro j hj
    rw [h4, List.getD_eq_getElem?_getD, List.getElem?_map, List.getElem?_range hj]; rfl
  clear h h4
  generalize hn : c.length = n at *
  have hle : ∀ d j, j + d = n → ρ j ≤ n := by
    intro d
    induction d with
    | zero => intro j hj; rw [show j = n by omega, h1]; omega
    | succ d ih =>
      intro j hj
      have := ih (j + 1) (by omega)
      have h5 := h2 j (by omega)
      rw [h5.2]
      have := rowP_le (c := c) (i := atR p (ρ (j + 1))) (by rw [hn]; exact atR_lt this hp h5.1)
      omega
  have hat : ∀ j, j < n → atR p (ρ (j + 1)) < n := fun j hj => atR_lt (hle (n - (j + 1)) (j + 1) (by omega)) hp (h2 j hj).1
  have hpos : ∀ j, j < n → 1 ≤ ρ j := fun j hj => by rw [(h2 j hj).2]; exact rowP_pos _ _
  have hmono : ∀ d a b, a + d = n → b ≤ n → (ρ a < ρ b ↔ sufLt t a b = true) := by
    intro d
    induction d with
    | zero =>
      intro a b ha hb
      have ea : a = n := by omega
      subst ea
      rw [h1]
      by_cases e : b = a
      · subst e
        rw [h1]
        constructor
        · intro h; omega
        · intro h; rw [show sufLt t b b = false from lexL_irrefl _] at h; cases h
      · have := hpos b (by omega)
        constructor
        · intro _; have := sufLt_end (s := t) (k := b) (by omega); rwa [hlen] at this
        · intro _; omega
    | succ d ih =>
      intro a b ha hb
      by_cases e : b = n
      · subst e
        rw [h1]
        constructor
        · intro h; omega
        · intro h
          have := sufLt_end' (s := t) (k := a)
          rw [hlen, h] at this
          cases this
      · have hb' : b < n := by omega
        have ha' : a < n := by omega
        rw [sufLt_step (by omega) (by omega), (h2 a ha').2, (h2 b hb').2, rowP_iff (by rw [hn]; exact hat a ha') (by rw [hn]; exact hat b hb'), hget a ha', hget b hb', atR_mono (h2 a ha').1 (h2 b hb').1, ih (a + 1) (b + 1) (by omega) (by omega)]
  have hrk : ∀ k, k ≤ n → rk t k = ρ k := by
    intro k hk
    unfold rk
    rw [hlen]
    have e1 : (List.range (n + 1)).countP (fun m => sufLt t m k) = (List.range (n + 1)).countP ((fun r => decide (r < ρ k)) ∘ ρ) := by
      apply List.countP_congr
      intro m hm
      have hm' : m ≤ n := by have := List.mem_range.1 hm; omega
      rw [← hmono (n - m) m k (by omega) hk]
      simp
    rw [e1, ← List.countP_map]
    have hnd : ((List.range (n + 1)).map ρ).Nodup := by
      rw [List.Nodup, List.pairwise_map]
      refine List.Pairwise.imp_of_mem ?_ (List.nodup_range (n := n + 1))
      intro a b ha hb hab e
      have ha' : a ≤ n := by have := List.mem_range.1 ha; omega
      have hb' : b ≤ n := by have := List.mem_range.1 hb; omega
      rcases sufLt_total (s := t) (a := a) (b := b) (by omega) (by omega) hab with g | g
      · have := (hmono (n - a) a b (by omega) hb').2 g; omega
      · have := (hmono (n - b) b a (by omega) ha').2 g; omega
    have hp2 := perm_range (n := n + 1) hnd (fun x hx => by
      obtain ⟨m, hm, rfl⟩ := List.mem_map.1 hx
      have := List.mem_range.1 hm
      have := hle (n - m) m (by omega)
      omega) (by rw [List.length_map, List.length_range])
    rw [hp2.countP_eq]
    have hk2 := hle (n - k) k (by omega)
    have e3 : ∀ (m v : Nat), v ≤ m → (List.range m).countP (fun r => decide (r < v)) = v := by
      intro m
      induction m with
      | zero => intro v hv; simp; omega
      | succ m ih =>
        intro v hv
        rw [List.range_succ, List.countP_append, List.countP_singleton]
        by_cases g : v ≤ m
        · rw [ih v g, if_neg (by simp; omega)]
          rfl
        · have : v = m + 1 := by omega
          subst this
          rw [if_pos (by simp)]
          have : (List.range m).countP (fun r => decide (r < m + 1)) = (List.range m).length := by
            rw [List.countP_eq_length]
            intro r hr
            have := List.mem_range.1 hr
            simp; omega
          rw [this, List.length_range]
    exact e3 (n + 1) (ρ k) (by omega)
  have hpr : primL t es = p := by rw [prim_rk he, hrk 0 (by omega), h3]
  refine ⟨hlen, ?_, hpr⟩
  apply List.ext_getElem?
  intro i
  rcases Nat.lt_or_ge i n with hi | hi
  · rw [col_get]
    have hr : (if i < p then i else i + 1) < (rowsL t es).length := by rw [rowsL_len he]; split <;> omega
    have hne : (if i < p then i else i + 1) ≠ primL t es := by rw [hpr]; split <;> omega
    have ha := others_at he hr hne
    have hat2 : atR (primL t es) (if i < p then i else i + 1) = i := by rw [hpr]; unfold atR; split <;> split <;> omega
    rw [hat2] at ha
    rw [ha]
    have hk := rowsL_rk he hr
    have hm := (rowsL_mem he).1 (List.getElem_mem hr)
    generalize (rowsL t es)[if i < p then i else i + 1] = k at hk hm
    have hkn : k ≤ n := by omega
    rw [hrk k hkn] at hk
    have hk0 : k ≠ 0 := by
      rintro rfl
      rw [h3] at hk
      split at hk <;> omega
    obtain ⟨m, rfl⟩ : ∃ m, k = m + 1 := ⟨k - 1, by omega⟩
    show some (t.getD (m + 1 - 1) 0) = _
    rw [Nat.add_sub_cancel, hget m (by omega), hk]
    have : atR p (if i < p then i else i + 1) = i := by unfold atR; split <;> split <;> omega
    rw [this, List.getD_eq_getElem?_getD, List.getElem?_eq_getElem (by omega)]; rfl
  · rw [List.getElem?_eq_none (by rw [colL_len he]; omega), List.getElem?_eq_none (by omega)]
end Go.Proofs.YtcfnjpokfodmoaaGreatDoor
