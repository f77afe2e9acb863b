/- Lemmas for the row: FrP, FrQ, FrA. -/
import Derived.Test.YtahnnebpadbopaaGreatDoorM01
import Derived.Lib.IndexMore
import Derived.Lib.ItoaNum
import Derived.Lib.Join
import Derived.Lib.ParseIntB
import Derived.Lib.Strings
set_option linter.unusedVariables false
/- A script's lines, plainly: what the functions of 'front', and of the document's chapter, make of bytes. No program in sight. -/
namespace Go.Proofs.YtahnnebpadbopaaGreatDoor
open Go.RowKit

def plainC (c : UInt8) : Bool := decide (32 ≤ c.toNat) && decide (c.toNat ≤ 126) && decide (c.toNat ≠ 34) && decide (c.toNat ≠ 92)
def hexD (n : Nat) : UInt8 := if n < 10 then UInt8.ofNat (48 + n) else UInt8.ofNat (87 + n)
def quoteC (c : UInt8) : List UInt8 := if plainC c then [c] else [92, 120, hexD (c.toNat / 16), hexD (c.toNat % 16)]
def quoteB (s : List UInt8) : List UInt8 := 34 :: (s.flatMap quoteC ++ [34])
def digV (c : UInt8) : Nat := if 48 ≤ c.toNat ∧ c.toNat ≤ 57 then c.toNat - 48 else if 97 ≤ c.toNat ∧ c.toNat ≤ 102 then c.toNat - 87 else 16
def escB : List UInt8 → Option UInt8
  | x :: a :: b :: _ => if x = 120 ∧ digV a < 16 ∧ digV b < 16 ∧ plainC (UInt8.ofNat (16 * digV a + digV b)) = false then some (UInt8.ofNat (16 * digV a + digV b)) else none
  | _ => none
/-- What a quoted text says, behind its first sign. -/
def unqB : Nat → List UInt8 → List UInt8 → Option (List UInt8 × List UInt8)
  | 0, _, _ => none
  | _ + 1, _, [] => none
  | f + 1, out, c :: r =>
    if c = 34 then some (out, r)
    else if c = 92 then (match escB r with
      | none => none
      | some x => unqB f (out ++ [x]) (r.drop 3))
    else if plainC c then unqB f (out ++ [c]) r else none
def unquoteB : List UInt8 → Option (List UInt8 × List UInt8)
  | [] => none
  | c :: r => if c = 34 then unqB (r.length + 1) [] r else none
/-- The document's. -/
def runqB (s : List UInt8) : Nat → Nat → List UInt8 → Option (List UInt8 × List UInt8)
  | 0, _, _ => none
  | f + 1, i, out =>
    match s[i]? with
    | none => none
    | some c =>
      if c = 34 then (if quoteB out = s.take (i + 1) then some (out, s.drop (i + 1)) else none)
      else if c ≠ 92 then runqB s f (i + 1) (out ++ [c])
      else if s.length ≤ i + 3 ∨ s.getD (i + 1) 0 ≠ 120 then none
      else if 15 < digV (s.getD (i + 2) 0) ∨ 15 < digV (s.getD (i + 3) 0) then none
      else runqB s f (i + 4) (out ++ [UInt8.ofNat (16 * digV (s.getD (i + 2) 0) + digV (s.getD (i + 3) 0))])
def runquoteB (s : List UInt8) : Option (List UInt8 × List UInt8) := if s.head? = some 34 then runqB s (s.length + 1) 1 [] else none

/-! ### Steps -/
structure Stp where
  kind : Nat
  nm : ByteArray
  to_ : ByteArray
  tx : ByteArray
  n : Int
  keep : List Bool
deriving DecidableEq
def noStp : Stp := ⟨0, ⟨#[]⟩, ⟨#[]⟩, ⟨#[]⟩, 0, []⟩
def hasNm (k : Nat) : Bool := decide (k = 1) || decide (k = 2) || decide (k = 3) || decide (k = 4) || decide (k = 6)
def hasTo (k : Nat) : Bool := decide (k = 4) || decide (k = 6)
def hasN (k : Nat) : Bool := decide (k = 8) || decide (k = 9)
def rightS (s : Stp) : Bool := decide (1 ≤ s.kind) && decide (s.kind ≤ 10) && (hasNm s.kind || decide (s.nm.size = 0)) && (hasTo s.kind || decide (s.to_.size = 0)) && (decide (s.kind = 1) || decide (s.tx.size = 0)) && (hasN s.kind || decide (s.n = 0)) && (decide (s.kind = 10) || decide (s.keep = []))
def fitsN (n : Int) : Bool := decide (-1000000000 < n) && decide (n < 1000000000)
def verbB : Nat → List UInt8
  | 1 => [112, 117, 116]
  | 2 => [103, 101, 116]
  | 3 => [102, 114, 101, 101]
  | 4 => [112, 114, 101, 115, 115]
  | 5 => [114, 101, 115, 117, 109, 101]
  | 6 => [98, 97, 99, 107]
  | 7 => [99, 97, 110, 99, 101, 108]
  | 8 => [98, 117, 100, 103, 101, 116]
  | 9 => [102, 117, 115, 101]
  | 10 => [99, 114, 97, 115, 104]
  | _ => []
def bl (s : ByteArray) : List UInt8 := s.data.toList
def keptB (l : List Bool) : List UInt8 := l.map fun k => if k then 49 else 48
/-- A step's line, without its end. -/
def argsB (s : Stp) : List UInt8 :=
  if s.kind = 1 then 32 :: (quoteB (bl s.nm) ++ 32 :: quoteB (bl s.tx))
  else if s.kind = 2 ∨ s.kind = 3 then 32 :: quoteB (bl s.nm)
  else if s.kind = 4 ∨ s.kind = 6 then 32 :: (quoteB (bl s.nm) ++ 32 :: quoteB (bl s.to_))
  else if s.kind = 8 ∨ s.kind = 9 then 32 :: Lib.itoa s.n
  else if s.kind = 10 ∧ s.keep ≠ [] then 32 :: keptB s.keep
  else []
def lineB (s : Stp) : List UInt8 := verbB s.kind ++ argsB s
def writeB : List Stp → Option (List UInt8)
  | [] => some []
  | s :: l => if rightS s && fitsN s.n then (writeB l).map fun t => lineB s ++ 10 :: t else none
/-- A line's reader: what is left, and whether all was well. -/
def rdSpace (r : List UInt8 × Bool) : List UInt8 × Bool := (Lib.trimPrefix r.1 [32], r.2 && Lib.hasPrefix r.1 [32])
def rdText (r : List UInt8 × Bool) : List UInt8 × List UInt8 × Bool :=
  match unquoteB (rdSpace r).1 with
  | some u => (u.1, u.2, (rdSpace r).2)
  | none => ([], [], false)
def numB (l : List UInt8) : Option Int :=
  match Lib.parseIntB 64 l with
  | .ok v => if v ≤ 999999999 ∧ -999999999 ≤ v ∧ Lib.itoa v = l then some v else none
  | _ => none
def rdNum (r : List UInt8 × Bool) : Int × Bool := ((numB (rdSpace r).1).getD 0, (rdSpace r).2 && (numB (rdSpace r).1).isSome)
def rdKeep (r : List UInt8 × Bool) : List Bool × Bool :=
  if r.1 = [] then ([], r.2)
  else ((rdSpace r).1.map fun c => decide (c = 49), (rdSpace r).2 && (decide ((rdSpace r).1 ≠ []) && (rdSpace r).1.all fun c => decide (c = 48) || decide (c = 49)))
/-- A verb's kind; 0: none's. -/
def kindB (w : List UInt8) : Nat := (((List.range 10).map (· + 1)).find? fun k => decide (verbB k = w)).getD 0
def blB (l : List UInt8) : ByteArray := ⟨l.toArray⟩
def stepK (k : Nat) (r : List UInt8) : Option Stp :=
  if k = 1 then
    let a := rdText (r, true)
    let b := rdText a.2
    if b.2 = ([], true) then some ⟨1, blB a.1, ⟨#[]⟩, blB b.1, 0, []⟩ else none
  else if k = 4 ∨ k = 6 then
    let a := rdText (r, true)
    let b := rdText a.2
    if b.2 = ([], true) then some ⟨k, blB a.1, blB b.1, ⟨#[]⟩, 0, []⟩ else none
  else if k = 2 ∨ k = 3 then
    let a := rdText (r, true)
    if a.2 = ([], true) then some ⟨k, blB a.1, ⟨#[]⟩, ⟨#[]⟩, 0, []⟩ else none
  else if k = 8 ∨ k = 9 then
    let a := rdNum (r, true)
    if a.2 then some ⟨k, ⟨#[]⟩, ⟨#[]⟩, ⟨#[]⟩, a.1, []⟩ else none
  else if k = 10 then
    let a := rdKeep (r, true)
    if a.2 then some ⟨10, ⟨#[]⟩, ⟨#[]⟩, ⟨#[]⟩, 0, a.1⟩ else none
  else if k = 5 ∨ k = 7 then (if r = [] then some ⟨k, ⟨#[]⟩, ⟨#[]⟩, ⟨#[]⟩, 0, []⟩ else none)
  else none
/-- Where a line's first space is, or its end. -/
def spaceI (s : List UInt8) : Nat := (s.findIdx? fun c => decide (c = 32)).getD s.length
def stepB (s : List UInt8) : Option Stp := stepK (kindB (s.take (spaceI s))) (s.drop (spaceI s))
/-- A script's steps; how many; the error. -/
def parseF : Nat → List UInt8 → List Stp → List Stp × Nat × Int
  | 0, _, out => ([], out.length, 7)
  | f + 1, s, out =>
    if s = [] then (out, out.length, 0)
    else match (Lib.cut s [10]).2.2, stepB (Lib.cut s [10]).1 with
      | true, some x => parseF f (Lib.cut s [10]).2.1 (out ++ [x])
      | _, _ => ([], out.length, 7)
def parseB (s : List UInt8) : List Stp × Nat × Int := parseF (s.length + 1) s []

/-! ### The document's -/
def begB (s p : List UInt8) : Option (List UInt8) := if s.take p.length = p then some (s.drop p.length) else none
def textsB (s : List UInt8) : List UInt8 × List UInt8 :=
  let u := (runquoteB s).getD ([], [])
  match begB u.2 [32] with
  | none => (u.1, [])
  | some r => (u.1, ((runquoteB r).getD ([], [])).1)
def numF : Nat → List UInt8 → Nat → Nat
  | 0, _, n => n
  | _, [], n => n
  | f + 1, c :: l, n => numF f l (10 * n + digV c % 10)
def numberB (s : List UInt8) : Int := if s.head? = some 45 then -((numF 11 (s.drop 1) 0 : Nat) : Int) else (numF 12 s 0 : Nat)
def guessB (s : List UInt8) : Stp :=
  match begB s [112, 117, 116, 32] with
  | some r => ⟨1, blB (textsB r).1, ⟨#[]⟩, blB (textsB r).2, 0, []⟩
  | none => match begB s [103, 101, 116, 32] with
  | some r => ⟨2, blB (textsB r).1, ⟨#[]⟩, ⟨#[]⟩, 0, []⟩
  | none => match begB s [102, 114, 101, 101, 32] with
  | some r => ⟨3, blB (textsB r).1, ⟨#[]⟩, ⟨#[]⟩, 0, []⟩
  | none => match begB s [112, 114, 101, 115, 115, 32] with
  | some r => ⟨4, blB (textsB r).1, blB (textsB r).2, ⟨#[]⟩, 0, []⟩
  | none => match begB s [98, 97, 99, 107, 32] with
  | some r => ⟨6, blB (textsB r).1, blB (textsB r).2, ⟨#[]⟩, 0, []⟩
  | none => match begB s [98, 117, 100, 103, 101, 116, 32] with
  | some r => ⟨8, ⟨#[]⟩, ⟨#[]⟩, ⟨#[]⟩, numberB r, []⟩
  | none => match begB s [102, 117, 115, 101, 32] with
  | some r => ⟨9, ⟨#[]⟩, ⟨#[]⟩, ⟨#[]⟩, numberB r, []⟩
  | none =>
    if s = [114, 101, 115, 117, 109, 101] then ⟨5, ⟨#[]⟩, ⟨#[]⟩, ⟨#[]⟩, 0, []⟩
    else if s = [99, 97, 110, 99, 101, 108] then ⟨7, ⟨#[]⟩, ⟨#[]⟩, ⟨#[]⟩, 0, []⟩
    else match begB s [99, 114, 97, 115, 104, 32] with
    | some r => ⟨10, ⟨#[]⟩, ⟨#[]⟩, ⟨#[]⟩, 0, r.map fun c => decide (c = 49)⟩
    | none => ⟨10, ⟨#[]⟩, ⟨#[]⟩, ⟨#[]⟩, 0, []⟩
def rlineB (s : Stp) : Option (List UInt8) := if rightS s && fitsN s.n then some (lineB s) else none
/-- Over the lines, from a place on. -/
def rparseF (s : List UInt8) : Nat → Nat → Nat → List Stp → List Stp × Nat × Int
  | 0, _, _, out => ([], out.length, 7)
  | f + 1, i, from_, out =>
    match s[i]? with
    | none => if from_ < s.length then ([], out.length, 7) else (out, out.length, 0)
    | some c =>
      if c ≠ 10 then rparseF s f (i + 1) from_ out
      else if rlineB (guessB ((s.take i).drop from_)) = some ((s.take i).drop from_) then rparseF s f (i + 1) (i + 1) (out ++ [guessB ((s.take i).drop from_)])
      else ([], out.length, 7)
def rparseB (s : List UInt8) : List Stp × Nat × Int := rparseF s (s.length + 1) 0 0 []
end Go.Proofs.YtahnnebpadbopaaGreatDoor
/- A quoted text is read back, and only so; the document's reading is the same. No program in sight. -/
namespace Go.Proofs.YtahnnebpadbopaaGreatDoor
open Go.RowKit

theorem plain_c (c : UInt8) : plainC c = true → c ≠ 34 ∧ c ≠ 92 := by
  intro h
  unfold plainC at h
  simp only [Bool.and_eq_true, decide_eq_true_eq] at h
  constructor
  · intro e; subst e; exact absurd rfl h.1.2
  · intro e; subst e; exact absurd rfl h.2
theorem dig_hex (n : Nat) (h : n < 16) : digV (hexD n) = n := by
  have : ∀ k : Fin 16, digV (hexD k.val) = k.val := by decide
  exact this ⟨n, h⟩
theorem hex_dig (c : UInt8) (h : digV c < 16) : hexD (digV c) = c := by
  have key : ∀ k : Fin 256, digV (UInt8.ofNat k.val) < 16 → hexD (digV (UInt8.ofNat k.val)) = UInt8.ofNat k.val := by decide +kernel
  have := key ⟨c.toNat, c.toNat_lt⟩
  simp only [UInt8.ofNat_toNat] at this
  exact this h
theorem byte_two (c : UInt8) : UInt8.ofNat (16 * (c.toNat / 16) + c.toNat % 16) = c := by
  rw [Nat.div_add_mod]; exact UInt8.ofNat_toNat
theorem escB_cons (x a b : UInt8) (r : List UInt8) : escB (x :: a :: b :: r) = if x = 120 ∧ digV a < 16 ∧ digV b < 16 ∧ plainC (UInt8.ofNat (16 * digV a + digV b)) = false then some (UInt8.ofNat (16 * digV a + digV b)) else none := rfl
theorem unquoteB_cons (c : UInt8) (r : List UInt8) : unquoteB (c :: r) = if c = 34 then unqB (r.length + 1) [] r else none := rfl
theorem esc_quote {c : UInt8} (h : plainC c = false) (r : List UInt8) : escB (120 :: hexD (c.toNat / 16) :: hexD (c.toNat % 16) :: r) = some c := by
  have h1 : c.toNat / 16 < 16 := by have := c.toNat_lt; omega
  have h2 : c.toNat % 16 < 16 := by omega
  rw [escB_cons, dig_hex _ h1, dig_hex _ h2, byte_two, if_pos ⟨rfl, h1, h2, h⟩]
theorem esc_some {r : List UInt8} {x : UInt8} (h : escB r = some x) : plainC x = false ∧ r = 120 :: hexD (x.toNat / 16) :: hexD (x.toNat % 16) :: r.drop 3 := by
  match r with
  | [] => cases h
  | [_] => cases h
  | [_, _] => cases h
  | y :: a :: b :: q =>
    rw [escB_cons] at h
    split at h
    · rename_i hc
      obtain ⟨h1, h2, h3, h4⟩ := hc
      cases h
      refine ⟨h4, ?_⟩
      have hx : (UInt8.ofNat (16 * digV a + digV b)).toNat = 16 * digV a + digV b := by
        rw [UInt8.toNat_ofNat']; omega
      rw [hx, h1, show (16 * digV a + digV b) / 16 = digV a by omega, show (16 * digV a + digV b) % 16 = digV b by omega, hex_dig a h2, hex_dig b h3]
      rfl
    · cases h
theorem unq_quote : ∀ (t out rest : List UInt8) (f : Nat), t.length < f → unqB f out (t.flatMap quoteC ++ 34 :: rest) = some (out ++ t, rest) := by
  intro t
  induction t with
  | nil =>
    intro out rest f hf
    obtain ⟨f, rfl⟩ : ∃ k, f = k + 1 := ⟨f - 1, by simp at hf; omega⟩
    simp [unqB]
  | cons c t ih =>
    intro out rest f hf
    obtain ⟨f, rfl⟩ : ∃ k, f = k + 1 := ⟨f - 1, by simp at hf; omega⟩
    have hf2 : t.length < f := by simp at hf; omega
    rw [List.flatMap_cons]
    by_cases hp : plainC c = true
    · obtain ⟨h1, h2⟩ := plain_c c hp
      have : quoteC c = [c] := by unfold quoteC; rw [if_pos hp]
      rw [this]
      simp only [List.cons_append, List.nil_append]
      rw [unqB, if_neg h1, if_neg h2, if_pos hp, ih _ _ _ hf2]
      simp
    · have hp2 : plainC c = false := by simpa using hp
      have : quoteC c = [92, 120, hexD (c.toNat / 16), hexD (c.toNat % 16)] := by unfold quoteC; rw [if_neg hp]
      rw [this]
      simp only [List.cons_append, List.nil_append]
      rw [unqB, if_neg (by decide), if_pos rfl, esc_quote hp2]
      simp only [List.drop_succ_cons, List.drop_zero]
      rw [ih _ _ _ hf2]
      simp
theorem unq_some : ∀ (f : Nat) (out s t rest : List UInt8), unqB f out s = some (t, rest) → ∃ u, t = out ++ u ∧ s = u.flatMap quoteC ++ 34 :: rest := by
  intro f
  induction f with
  | zero => intro out s t rest h; cases h
  | succ f ih =>
    intro out s t rest h
    match s with
    | [] => cases h
    | c :: r =>
      rw [unqB] at h
      split at h
      · rename_i hc
        cases h
        exact ⟨[], by simp, by rw [hc]; rfl⟩
      · split at h
        · rename_i h1 h2
          split at h
          · cases h
          · rename_i x hx
            obtain ⟨e1, e2⟩ := esc_some hx
            obtain ⟨u, g1, g2⟩ := ih _ _ _ _ h
            refine ⟨x :: u, by rw [g1]; simp, ?_⟩
            have : quoteC x = [92, 120, hexD (x.toNat / 16), hexD (x.toNat % 16)] := by unfold quoteC; rw [if_neg (by rw [e1]; decide)]
            rw [List.flatMap_cons, this, h2, e2, g2]
            rfl
        · split at h
          · rename_i h1 h2 hp
            obtain ⟨u, g1, g2⟩ := ih _ _ _ _ h
            refine ⟨c :: u, by rw [g1]; simp, ?_⟩
            have : quoteC c = [c] := by unfold quoteC; rw [if_pos hp]
            rw [List.flatMap_cons, this, g2]
            rfl
          · cases h
theorem quote_len (t : List UInt8) : t.length ≤ (t.flatMap quoteC).length := by
  induction t with
  | nil => exact Nat.le_refl _
  | cons c t ih =>
    rw [List.flatMap_cons, List.length_append]
    have : 1 ≤ (quoteC c).length := by unfold quoteC; split <;> simp
    rw [List.length_cons]
    omega
theorem quote_len2 (t rest : List UInt8) : t.length < (t.flatMap quoteC ++ 34 :: rest).length := by
  have := quote_len t
  rw [List.length_append, List.length_cons]; omega
/-- What is quoted is read. -/
theorem unquote_quote (t rest : List UInt8) : unquoteB (quoteB t ++ rest) = some (t, rest) := by
  unfold quoteB
  rw [List.cons_append, List.append_assoc, unquoteB_cons, if_pos rfl]
  have := quote_len2 t rest
  rw [show [34] ++ rest = 34 :: rest from rfl, unq_quote _ _ _ _ (by omega)]
  rfl
theorem unquote_some {s t rest : List UInt8} (h : unquoteB s = some (t, rest)) : s = quoteB t ++ rest := by
  match s with
  | [] => cases h
  | c :: r =>
    rw [unquoteB_cons] at h
    split at h
    · rename_i hc
      obtain ⟨u, e1, e2⟩ := unq_some _ _ _ _ _ h
      rw [List.nil_append] at e1
      subst e1
      unfold quoteB
      rw [hc, e2]
      simp
    · cases h
/-! ### The document's reading -/
theorem getD_app {l r : List UInt8} (j : Nat) (d : UInt8) : (l ++ r).getD (l.length + j) d = r.getD j d := by
  rw [List.getD_eq_getElem?_getD, List.getD_eq_getElem?_getD, List.getElem?_append_right (by omega), Nat.add_sub_cancel_left]
theorem runq_quote : ∀ (t out pre rest s : List UInt8) (f : Nat), t.length < f → pre = 34 :: out.flatMap quoteC → s = pre ++ (t.flatMap quoteC ++ 34 :: rest) → runqB s f pre.length out = some (out ++ t, rest) := by
  intro t
  induction t with
  | nil =>
    intro out pre rest s f hf hp hs
    obtain ⟨f, rfl⟩ : ∃ k, f = k + 1 := ⟨f - 1, by simp at hf; omega⟩
    have hs2 : s = pre ++ 34 :: rest := by rw [hs]; simp
    have hg : s[pre.length]? = some 34 := by rw [hs2, List.getElem?_append_right (by omega)]; simp
    have hq : quoteB out = s.take (pre.length + 1) := by
      rw [hs2, show List.take (pre.length + 1) (pre ++ 34 :: rest) = pre ++ [34] from by
        rw [show pre ++ 34 :: rest = (pre ++ [34]) ++ rest by simp, List.take_append_of_le_length (by simp)]
        exact List.take_of_length_le (by simp)]
      unfold quoteB
      rw [hp]; rfl
    have hd : s.drop (pre.length + 1) = rest := by
      rw [hs2, show pre ++ 34 :: rest = (pre ++ [34]) ++ rest by simp, List.drop_append_of_le_length (by simp), List.drop_of_length_le (by simp)]
      rfl
    rw [runqB, hg]
    simp only [if_pos]
    rw [if_pos hq, hd, List.append_nil]
  | cons c t ih =>
    intro out pre rest s f hf hp hs
    obtain ⟨f, rfl⟩ : ∃ k, f = k + 1 := ⟨f - 1, by simp at hf; omega⟩
    have hf2 : t.length < f := by simp at hf; omega
    by_cases hpc : plainC c = true
    · obtain ⟨h1, h2⟩ := plain_c c hpc
      have hq : quoteC c = [c] := by unfold quoteC; rw [if_pos hpc]
      have hs2 : s = pre ++ c :: (t.flatMap quoteC ++ 34 :: rest) := by rw [hs, List.flatMap_cons, hq]; simp
      have hg : s[pre.length]? = some c := by rw [hs2, List.getElem?_append_right (by omega)]; simp
      have := ih (out ++ [c]) (pre ++ [c]) rest s f hf2 (by rw [hp, List.flatMap_append]; simp [hq]) (by rw [hs2]; simp)
      rw [runqB, hg]
      simp only []
      rw [if_neg h1, if_pos h2, show pre.length + 1 = (pre ++ [c]).length by simp, this]
      simp
    · have hp2 : plainC c = false := by simpa using hpc
      have hq : quoteC c = [92, 120, hexD (c.toNat / 16), hexD (c.toNat % 16)] := by unfold quoteC; rw [if_neg hpc]
      have hs2 : s = pre ++ 92 :: 120 :: hexD (c.toNat / 16) :: hexD (c.toNat % 16) :: (t.flatMap quoteC ++ 34 :: rest) := by rw [hs, List.flatMap_cons, hq]; simp
      have hg : s[pre.length]? = some 92 := by rw [hs2, List.getElem?_append_right (by omega)]; simp
      have g1 : s.getD (pre.length + 1) 0 = 120 := by rw [hs2, getD_app]; rfl
      have g2 : s.getD (pre.length + 2) 0 = hexD (c.toNat / 16) := by rw [hs2, getD_app]; rfl
      have g3 : s.getD (pre.length + 3) 0 = hexD (c.toNat % 16) := by rw [hs2, getD_app]; rfl
      have hl : ¬ s.length ≤ pre.length + 3 := by rw [hs2]; simp only [List.length_append, List.length_cons]; omega
      have h1 : c.toNat / 16 < 16 := by have := c.toNat_lt; omega
      have h2 : c.toNat % 16 < 16 := by omega
      have := ih (out ++ [c]) (pre ++ [92, 120, hexD (c.toNat / 16), hexD (c.toNat % 16)]) rest s f hf2 (by rw [hp, List.flatMap_append]; simp [hq]) (by rw [hs2]; simp)
      rw [runqB, hg]
      simp only []
      rw [if_neg (by decide), if_neg (by simp), g1, g2, g3, dig_hex _ h1, dig_hex _ h2, byte_two, if_neg (by simp [hl]), if_neg (by omega), show pre.length + 4 = (pre ++ [92, 120, hexD (c.toNat / 16), hexD (c.toNat % 16)]).length by simp, this]
      simp
theorem runq_some (s : List UInt8) : ∀ (f i : Nat) (out t rest : List UInt8), runqB s f i out = some (t, rest) → s = quoteB t ++ rest := by
  intro f
  induction f with
  | zero => intro i out t rest h; cases h
  | succ f ih =>
    intro i out t rest h
    rw [runqB] at h
    split at h
    · cases h
    · split at h
      · split at h
        · rename_i hq
          cases h
          rw [hq, List.take_append_drop]
        · cases h
      · split at h
        · exact ih _ _ _ _ h
        · split at h
          · cases h
          · split at h
            · cases h
            · exact ih _ _ _ _ h
theorem runquote_quote (t rest : List UInt8) : runquoteB (quoteB t ++ rest) = some (t, rest) := by
  unfold runquoteB
  rw [if_pos (by unfold quoteB; rfl)]
  have hq : quoteB t ++ rest = [34] ++ (t.flatMap quoteC ++ 34 :: rest) := by unfold quoteB; simp
  have hl := quote_len2 t rest
  have := runq_quote t [] [34] rest (quoteB t ++ rest) ((quoteB t ++ rest).length + 1) (by rw [hq, List.length_append]; omega) rfl hq
  simpa using this
theorem runquote_some {s t rest : List UInt8} (h : runquoteB s = some (t, rest)) : s = quoteB t ++ rest := by
  unfold runquoteB at h
  split at h
  · exact runq_some s _ _ _ _ _ h
  · cases h
/-- The document's reading is the program's. -/
theorem runquote_eq (s : List UInt8) : runquoteB s = unquoteB s := by
  cases h : unquoteB s with
  | some u =>
    obtain ⟨t, rest⟩ := u
    rw [unquote_some h]
    exact runquote_quote t rest
  | none =>
    cases h2 : runquoteB s with
    | none => rfl
    | some u =>
      obtain ⟨t, rest⟩ := u
      rw [runquote_some h2, unquote_quote] at h
      cases h
end Go.Proofs.YtahnnebpadbopaaGreatDoor
/- Walks: front.plain, wringerref32.digit. -/
namespace Go.Proofs.YtahnnebpadbopaaGreatDoor
open Go.RowKit

theorem plainc_any (c : UInt8) (w : World) : Calls Tryz.prog 28 #[.int .u8 (c.toNat : Nat)] w fun e w' => e = .returned (.bool (plainC c)) ∧ w' = w := by
  obtain ⟨n, hn⟩ : ∃ n : Nat, n = c.toNat := ⟨_, rfl⟩
  have hp : plainC c = (decide (32 ≤ n) && decide (n ≤ 126) && decide (n ≠ 34) && decide (n ≠ 92)) := by unfold plainC; rw [hn]
  rw [hp, ← hn]
  clear hp hn
  by_cases h1 : (32 : Int) ≤ (n : Int)
  · by_cases h2 : (n : Int) ≤ 126
    · by_cases h3 : (n : Int) = 34
      · have e3 : ((n : Int) != 34) = false := by simp [h3]
        go_enter Tryz.func28, Tryz.ntmps28
        go_wp2_with fail
        go_ret
        exact ⟨by have : n = 34 := by omega
                  subst this; rfl, rfl⟩
      · by_cases h4 : (n : Int) = 92
        · have e3 : ((n : Int) != 34) = true := by simp [h3]
          have e4 : ((n : Int) != 92) = false := by simp [h4]
          go_enter Tryz.func28, Tryz.ntmps28
          go_wp2_with fail
          go_ret
          exact ⟨by have : n = 92 := by omega
                    subst this; rfl, rfl⟩
        · have e3 : ((n : Int) != 34) = true := by simp [h3]
          have e4 : ((n : Int) != 92) = true := by simp [h4]
          go_enter Tryz.func28, Tryz.ntmps28
          go_wp2_with fail
          go_ret
          exact ⟨by rw [decide_eq_true (show 32 ≤ n by omega), decide_eq_true (show n ≤ 126 by omega), decide_eq_true (show n ≠ 34 by omega), decide_eq_true (show n ≠ 92 by omega)]; rfl, rfl⟩
    · go_enter Tryz.func28, Tryz.ntmps28
      go_wp2_with fail
      go_ret
      exact ⟨by rw [decide_eq_false (show ¬ n ≤ 126 by omega)]; simp, rfl⟩
  · go_enter Tryz.func28, Tryz.ntmps28
    go_wp2_with fail
    go_ret
    exact ⟨by rw [decide_eq_false (show ¬ 32 ≤ n by omega)]; simp, rfl⟩
abbrev hexT : ByteArray := ⟨#[48, 49, 50, 51, 52, 53, 54, 55, 56, 57, 97, 98, 99, 100, 101, 102]⟩
theorem hex_at (k : Nat) (h : k < hexT.size) : (hexT[k]'h).toNat = (hexD k).toNat := by
  have : ∀ k : Fin 16, (hexT[k.val]'k.isLt).toNat = (hexD k.val).toNat := by decide
  exact this ⟨k, h⟩
theorem digV_lt {c : UInt8} {k : Nat} (hk : k < 16) (h : hexD k = c) : digV c = k := by rw [← h]; exact dig_hex k hk
theorem digV_no {c : UInt8} (h : ∀ j, j < 16 → hexD j ≠ c) : digV c = 16 := by
  by_cases h1 : digV c < 16
  · exact absurd (hex_dig c h1) (h _ h1)
  · have : digV c ≤ 16 := by unfold digV; split; omega; split; omega; omega
    omega
set_option maxHeartbeats 2000000 in
theorem digit_any (c : UInt8) (w : World) : Calls Tryz.prog 29 #[.int .u8 (c.toNat : Nat)] w fun e w' => e = .returned (.int .i64 (digV c : Nat)) ∧ w' = w := by
  have hx := hex_at
  go_enter Tryz.func29, Tryz.ntmps29
  go_wp2_with fail
  go_loopw [3] (fun i wr => ∃ k : Nat, i = .int .i64 k ∧ k ≤ 16 ∧ wr = w ∧ Hid (∀ j, j < k → hexD j ≠ c)) (fun i _ => 16 - (intOf i).toNat)
  case atStart => exact ⟨0, rfl, by omega, rfl, hide (fun j hj => by omega)⟩
  case round =>
    obtain ⟨k, rfl, hk, rfl, hinv⟩ := hrel
    by_cases hlt : k < 16
    · by_cases hc : hexD k = c
      · have e1 : (((hexD k).toNat : Int) == (c.toNat : Int)) = true := by rw [hc]; simp
        have hd := digV_lt hlt hc
        have HD := hide hd
        clear hd hc
        go_wp2_with fail
        go_ret
        exact ⟨by rw [HD.out]; rfl, rfl⟩
      · have e1 : (((hexD k).toNat : Int) == (c.toNat : Int)) = false := by
          rw [beq_eq_false_iff_ne]
          intro e
          exact hc (UInt8.toNat_inj.1 (by omega))
        have HC := hide hc
        clear hc
        go_wp2_with fail
        exact ⟨⟨k + 1, by simp, by omega, trivial, hide (fun j hj => by
          rcases Nat.lt_or_ge j k with g | g
          · exact hinv.out j g
          · obtain rfl : j = k := by omega
            exact HC.out)⟩, by simp [intOf]; omega⟩
    · obtain rfl : k = 16 := by omega
      have HD := hide (digV_no hinv.out)
      go_wp2_with fail
      go_ret
      exact ⟨by rw [HD.out]; rfl, rfl⟩
end Go.Proofs.YtahnnebpadbopaaGreatDoor
