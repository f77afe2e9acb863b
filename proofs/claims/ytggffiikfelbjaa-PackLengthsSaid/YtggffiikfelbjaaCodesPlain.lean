/- Codes by their lengths, plainly: how many there are of each length, the first one of each, each symbol's, the symbols in order; and how they are filled in, length by length, symbol by symbol. No program in sight. -/
import Derived.Test.YtggffiikfelbjaaRoom
namespace Go.Proofs.Ytggffiikfelbjaa
open Go.RowKit

/-- How many of the first i are just l. -/
def cntT (ls : List Int) (l i : Nat) : Nat := (ls.take i).countP (fun x => decide (x = (l : Int)))
def cntC (ls : List Int) (l : Nat) : Nat := cntT ls l ls.length
/-- The code behind the last one of length l. -/
def nxtC (ls : List Int) : Nat → Nat
  | 0 => 0
  | l + 1 => 2 * nxtC ls l + cntC ls (l + 1)
/-- The first code of a length. -/
def fstC (ls : List Int) (l : Nat) : Nat := 2 * nxtC ls (l - 1)
/-- Symbol j's length, as a number. -/
def lenN (ls : List Int) (j : Nat) : Nat := (ls.getD j 0).toNat
/-- Symbol j's code. -/
def codeN (ls : List Int) (j : Nat) : Nat := if 1 ≤ lenN ls j ∧ lenN ls j ≤ 15 then fstC ls (lenN ls j) + cntT ls (lenN ls j) j else 0
/-- The symbols of length l among the first i, in order. -/
def idxT (ls : List Int) (l i : Nat) : List Nat := (List.range i).filter (fun j => decide (ls[j]? = some (l : Int)))
def idxC (ls : List Int) (l : Nat) : List Nat := idxT ls l ls.length
/-- All symbols of lengths 1 to l, in order of their codes. -/
def symC (ls : List Int) : Nat → List Nat
  | 0 => []
  | l + 1 => symC ls l ++ idxC ls (l + 1)

theorem cntT_le (ls : List Int) (l i : Nat) : cntT ls l i ≤ ls.length := by
  unfold cntT
  exact Nat.le_trans List.countP_le_length (by simp; omega)
theorem cntT_step {ls : List Int} {l i : Nat} {x : Int} (h : ls[i]? = some x) : cntT ls l (i + 1) = cntT ls l i + (if x = (l : Int) then 1 else 0) := by
  unfold cntT
  rw [List.take_add_one, h, List.countP_append]
  by_cases hx : x = (l : Int) <;> simp [hx]
theorem cntT_zero (ls : List Int) (l : Nat) : cntT ls l 0 = 0 := by simp [cntT]
theorem idxT_step {ls : List Int} {l i : Nat} {x : Int} (h : ls[i]? = some x) : idxT ls l (i + 1) = idxT ls l i ++ (if x = (l : Int) then [i] else []) := by
  unfold idxT
  rw [List.range_succ, List.filter_append]
  by_cases hx : x = (l : Int) <;> simp [h, hx]
theorem idxT_zero (ls : List Int) (l : Nat) : idxT ls l 0 = [] := by simp [idxT]
theorem idxT_length (ls : List Int) (l i : Nat) (h : i ≤ ls.length) : (idxT ls l i).length = cntT ls l i := by
  induction i with
  | zero => simp [idxT, cntT]
  | succ i ih =>
    have hx : ls[i]? = some ls[i] := List.getElem?_eq_getElem (by omega)
    rw [idxT_step hx, cntT_step hx, List.length_append, ih (by omega)]
    split <;> simp
theorem nxtC_le (ls : List Int) (l : Nat) : nxtC ls l ≤ l * ls.length * 2 ^ l := by
  induction l with
  | zero => simp [nxtC]
  | succ l ih =>
    rw [nxtC]
    have h1 : cntC ls (l + 1) ≤ ls.length := cntT_le _ _ _
    have h2 : ls.length * 1 ≤ ls.length * 2 ^ (l + 1) := Nat.mul_le_mul_left _ (Nat.two_pow_pos _)
    have h3 : (l + 1) * ls.length * 2 ^ (l + 1) = 2 * (l * ls.length * 2 ^ l) + ls.length * 2 ^ (l + 1) := by
      rw [Nat.add_mul, Nat.add_mul, Nat.one_mul, Nat.pow_succ, ← Nat.mul_assoc (l * ls.length)]; omega
    omega
theorem nxtC_small {ls : List Int} {l : Nat} (h : ls.length ≤ 512) (hl : l ≤ 15) : nxtC ls l ≤ 300000000 := by
  have h1 := nxtC_le ls l
  have h2 : l * ls.length ≤ 15 * 512 := Nat.mul_le_mul hl h
  have h3 : 2 ^ l ≤ 2 ^ 15 := Nat.pow_le_pow_right (by omega) hl
  have := Nat.mul_le_mul h2 h3
  omega

/-- A list by its places. -/
def tab (n : Nat) (f : Nat → Int) : List Int := (List.range n).map f
@[simp] theorem tab_length (n : Nat) (f : Nat → Int) : (tab n f).length = n := by simp [tab]
theorem tab_get {n i : Nat} (f : Nat → Int) (h : i < n) : (tab n f)[i]? = some (f i) := by simp [tab, h]
theorem tab_set (n i : Nat) (f : Nat → Int) (v : Int) : (tab n f).set i v = tab n (fun j => if j = i then v else f j) := by
  apply List.ext_getElem?
  intro k
  by_cases hk : k < n
  · rw [tab_get _ hk, List.getElem?_set]
    simp only [tab_length]
    by_cases h : i = k
    · subst h; simp [hk]
    · rw [if_neg h, tab_get _ hk, if_neg (fun e => h e.symm)]
  · rw [List.getElem?_eq_none (by simp; omega), List.getElem?_eq_none (by simp; omega)]
theorem tab_congr {n : Nat} {f g : Nat → Int} (h : ∀ i, i < n → f i = g i) : tab n f = tab n g :=
  List.map_congr_left fun i hi => h i (by simpa using hi)

/-- The counts, the first codes, the codes, as they are when l's first i symbols are done. -/
def cntP (ls : List Int) (l i : Nat) : Nat → Int := fun j => if j = 0 then 0 else if j < l then (cntC ls j : Nat) else if j = l then (cntT ls l i : Nat) else 0
def fstP (ls : List Int) (l : Nat) : Nat → Int := fun j => if j = 0 then 0 else if j ≤ l then (fstC ls j : Nat) else 0
def codP (ls : List Int) (l i : Nat) : Nat → Int := fun j => if lenN ls j = 0 then 0 else if lenN ls j < l ∨ (lenN ls j = l ∧ j < i) then (codeN ls j : Nat) else 0

theorem cntP_hit {ls : List Int} {l i : Nat} (h1 : 1 ≤ l) (h15 : l ≤ 15) (h : ls[i]? = some (l : Int)) : (tab 16 (cntP ls l i)).set l ((cntT ls l i : Nat) + 1 : Int) = tab 16 (cntP ls l (i + 1)) := by
  rw [tab_set]
  refine tab_congr fun j hj => ?_
  unfold cntP
  rw [cntT_step h, if_pos rfl]
  by_cases e : j = l
  · subst e; simp; omega
  · simp [e]
theorem cntP_miss {ls : List Int} {l i : Nat} {x : Int} (h : ls[i]? = some x) (hx : ¬ x = (l : Int)) : cntP ls l (i + 1) = cntP ls l i := by
  unfold cntP; rw [cntT_step h, if_neg hx]; rfl
theorem cntP_next (ls : List Int) (l : Nat) (h1 : 1 ≤ l) : cntP ls l ls.length = cntP ls (l + 1) 0 := by
  funext j
  unfold cntP
  rw [cntT_zero]
  by_cases h0 : j = 0
  · simp [h0]
  · by_cases hl : j < l
    · simp [h0, hl]; omega
    · by_cases he : j = l
      · subst he; simp [h0]; rfl
      · simp [h0, hl, he]; omega
theorem fstP_next (ls : List Int) (l : Nat) (h1 : 1 ≤ l) (h15 : l ≤ 15) : (tab 16 (fstP ls (l - 1))).set l (fstC ls l : Nat) = tab 16 (fstP ls l) := by
  rw [tab_set]
  refine tab_congr fun j hj => ?_
  unfold fstP
  by_cases e : j = l
  · subst e; simp; omega
  · simp only [e, if_false]
    by_cases h0 : j = 0
    · simp [h0]
    · by_cases hl : j ≤ l - 1
      · rw [if_neg h0, if_pos hl, if_neg h0, if_pos (by omega)]
      · rw [if_neg h0, if_neg hl, if_neg h0, if_neg (by omega)]
theorem lenN_of {ls : List Int} {i : Nat} {x : Int} (h : ls[i]? = some x) : lenN ls i = x.toNat := by
  unfold lenN; rw [List.getD_eq_getElem?_getD, h]; rfl
theorem codP_hit {ls : List Int} {l i : Nat} (h1 : 1 ≤ l) (h15 : l ≤ 15) (h : ls[i]? = some (l : Int)) :
    (tab ls.length (codP ls l i)).set i ((fstC ls l + cntT ls l i : Nat) : Int) = tab ls.length (codP ls l (i + 1)) := by
  rw [tab_set]
  refine tab_congr fun j hj => ?_
  have hi : lenN ls i = l := by rw [lenN_of h]; omega
  unfold codP
  by_cases e : j = i
  · subst e
    rw [if_pos rfl, hi, if_neg (by omega), if_pos (by omega)]
    unfold codeN
    rw [hi, if_pos ⟨h1, h15⟩]
  · rw [if_neg e]
    by_cases h0 : lenN ls j = 0
    · rw [if_pos h0, if_pos h0]
    · rw [if_neg h0, if_neg h0]
      by_cases hc : lenN ls j < l ∨ (lenN ls j = l ∧ j < i)
      · rw [if_pos hc, if_pos (by omega)]
      · rw [if_neg hc, if_neg (by omega)]
theorem codP_miss {ls : List Int} {l i : Nat} {x : Int} (h1 : 1 ≤ l) (h : ls[i]? = some x) (hx : ¬ x = (l : Int)) : codP ls l (i + 1) = codP ls l i := by
  funext j
  unfold codP
  by_cases e : j = i
  · subst e
    have : lenN ls j ≠ l := by rw [lenN_of h]; omega
    simp [this]
  · by_cases h0 : lenN ls j = 0
    · rw [if_pos h0, if_pos h0]
    · rw [if_neg h0, if_neg h0]
      by_cases hc : lenN ls j < l ∨ (lenN ls j = l ∧ j < i)
      · rw [if_pos (by omega), if_pos hc]
      · rw [if_neg (by omega), if_neg hc]
theorem codP_next (ls : List Int) (l : Nat) : tab ls.length (codP ls l ls.length) = tab ls.length (codP ls (l + 1) 0) := by
  refine tab_congr fun j hj => ?_
  unfold codP
  by_cases h0 : lenN ls j = 0
  · rw [if_pos h0, if_pos h0]
  · rw [if_neg h0, if_neg h0]
    by_cases hc : lenN ls j < l ∨ (lenN ls j = l ∧ j < ls.length)
    · rw [if_pos hc, if_pos (by omega)]
    · rw [if_neg hc, if_neg (by omega)]

/-- The book's cells. -/
def bookC (cnt fst : List Int) (v cv lv : Value) : Array Value := (cnt.map (Value.int .i64) ++ (fst.map (Value.int .u64) ++ [v, cv, lv])).toArray
section
variable {cnt fst : List Int} {v cv lv : Value}
theorem bookC_cnt (hc : cnt.length = 16) {i : Nat} {x : Int} (h : cnt[i]? = some x) : (bookC cnt fst v cv lv)[i]? = some (.int .i64 x) := by
  have hi : i < 16 := by rw [← hc]; exact (List.getElem?_eq_some_iff.1 h).1
  simp only [bookC, List.getElem?_toArray]
  rw [List.getElem?_append_left (by simp; omega), List.getElem?_map, h]; rfl
theorem bookC_fst (hc : cnt.length = 16) {i : Nat} {x : Int} (h : fst[i]? = some x) : (bookC cnt fst v cv lv)[16 + i]? = some (.int .u64 x) := by
  have hi : i < fst.length := (List.getElem?_eq_some_iff.1 h).1
  simp only [bookC, List.getElem?_toArray]
  rw [List.getElem?_append_right (by simp; omega), List.getElem?_append_left (by simp; omega), List.length_map, hc, List.getElem?_map, show 16 + i - 16 = i by omega, h]; rfl
theorem bookC_tail (hc : cnt.length = 16) (hf : fst.length = 16) : (bookC cnt fst v cv lv)[32]? = some v ∧ (bookC cnt fst v cv lv)[33]? = some cv ∧ (bookC cnt fst v cv lv)[34]? = some lv := by
  simp only [bookC, List.getElem?_toArray]
  refine ⟨?_, ?_, ?_⟩ <;> rw [List.getElem?_append_right (by simp; omega), List.getElem?_append_right (by simp; omega)] <;> simp [hc, hf]
theorem bookC_setCnt (hc : cnt.length = 16) (i : Nat) (hi : i < 16) (x : Int) : (bookC cnt fst v cv lv).setIfInBounds i (.int .i64 x) = bookC (cnt.set i x) fst v cv lv := by
  simp only [bookC, List.setIfInBounds_toArray]
  rw [List.set_append_left _ _ (by simp; omega), List.map_set]
theorem bookC_setFst (hc : cnt.length = 16) (hf : fst.length = 16) (i : Nat) (hi : i < 16) (x : Int) : (bookC cnt fst v cv lv).setIfInBounds (16 + i) (.int .u64 x) = bookC cnt (fst.set i x) v cv lv := by
  simp only [bookC, List.setIfInBounds_toArray]
  rw [List.set_append_right _ _ (by simp; omega), List.set_append_left _ _ (by simp; omega), List.length_map, hc, show 16 + i - 16 = i by omega, List.map_set]
theorem bookC_setSym (hc : cnt.length = 16) (hf : fst.length = 16) (u : Value) : (bookC cnt fst v cv lv).setIfInBounds 32 u = bookC cnt fst u cv lv := by
  simp only [bookC, List.setIfInBounds_toArray]
  rw [List.set_append_right _ _ (by simp; omega), List.set_append_right _ _ (by simp; omega)]
  simp [hc, hf]
end
theorem bookC_zero (v cv lv : Value) : bookC (tab 16 fun _ => 0) (tab 16 fun _ => 0) v cv lv = #[.int .i64 0, .int .i64 0, .int .i64 0, .int .i64 0, .int .i64 0, .int .i64 0, .int .i64 0, .int .i64 0, .int .i64 0, .int .i64 0, .int .i64 0, .int .i64 0, .int .i64 0, .int .i64 0, .int .i64 0, .int .i64 0,
  .int .u64 0, .int .u64 0, .int .u64 0, .int .u64 0, .int .u64 0, .int .u64 0, .int .u64 0, .int .u64 0, .int .u64 0, .int .u64 0, .int .u64 0, .int .u64 0, .int .u64 0, .int .u64 0, .int .u64 0, .int .u64 0, v, cv, lv] := rfl
#print axioms codP_next
end Go.Proofs.Ytggffiikfelbjaa
