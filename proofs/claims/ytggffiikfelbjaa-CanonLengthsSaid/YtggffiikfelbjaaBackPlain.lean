/- What was written is read, plainly. No program in sight. -/
import Derived.Test.YtggffiikfelbjaaApartPlain
namespace Go.Proofs.Ytggffiikfelbjaa
open Go.RowKit

theorem writeL_more {ls xs : List Int} : ∀ {l l' : List Bool}, writeL ls xs l = (0, l') → ∃ r, l' = l ++ r := by
  induction xs with
  | nil => intro l l' h; simp only [writeL, Prod.mk.injEq] at h; exact ⟨[], by rw [List.append_nil, h.2]⟩
  | cons x xs ih =>
    intro l l' h
    rw [writeL] at h
    split at h
    · obtain ⟨r, hr⟩ := ih h
      exact ⟨codeB ls x.toNat ++ r, by rw [hr, List.append_assoc]⟩
    · rename_i hs
      simp only [Prod.mk.injEq] at h
      exact absurd h.1 hs
theorem writeL_cons {ls xs : List Int} {x : Int} {l l' : List Bool} (h : writeL ls (x :: xs) l = (0, l')) : stepW ls x.toNat l = 0 ∧ writeL ls xs (l ++ codeB ls x.toNat) = (0, l') := by
  rw [writeL] at h
  split at h
  · rename_i hs; exact ⟨hs, h⟩
  · rename_i hs
    simp only [Prod.mk.injEq] at h
    exact absurd h.1 hs
/-- A symbol that is written has a code. -/
theorem stepW_zero {ls : List Int} {x : Nat} {l : List Bool} (hok : okL ls = true) (h : stepW ls x l = 0) : ∃ n : Nat, ls[x]? = some (n : Int) ∧ 1 ≤ n ∧ n ≤ 15 ∧ x < ls.length ∧ l.length + n ≤ 1048576 := by
  unfold stepW at h
  split at h
  · cases h
  · rename_i hx
    have hxl : x < ls.length := by omega
    have he : ls[x]? = some ls[x] := List.getElem?_eq_getElem hxl
    have hd : ls.getD x 0 = ls[x] := by rw [List.getD_eq_getElem?_getD, he]; rfl
    have hr := okL_range hok he
    rw [hd] at h
    split at h
    · cases h
    · rename_i h0
      split at h
      · cases h
      · exact ⟨ls[x].toNat, by rw [he]; congr 1; omega, by omega, by omega, hxl, by omega⟩
theorem cntC_pos {ls : List Int} {i n : Nat} (hx : ls[i]? = some (n : Int)) : 1 ≤ cntC ls n := by
  have := cntT_lt hx (List.getElem?_eq_some_iff.1 hx).1
  unfold cntC; omega
theorem symC_left {ls : List Int} {i n l : Nat} (hx : ls[i]? = some (n : Int)) (h15 : n ≤ 15) (h : l < n) : (symC ls 15).length ≠ (symC ls l).length := by
  obtain ⟨m, rfl⟩ : ∃ m, n = m + 1 := ⟨n - 1, by omega⟩
  obtain ⟨r, hr⟩ := symC_prefix ls l (m - l)
  rw [show l + (m - l) = m by omega] at hr
  have h1 := symC_step_len ls m
  have h2 := symC_len_mono ls h15
  have h3 := cntC_pos hx
  rw [hr, List.length_append] at h1
  omega
/-- Reading at a symbol's code finds the symbol. -/
theorem next_code {ls : List Int} {s : ByteArray} {N a i n : Nat} (hx : ls[i]? = some (n : Int)) (h1 : 1 ≤ n) (h15 : n ≤ 15) (hN : a + n ≤ N)
    (hb : ∀ j, j < n → bitAt s (a + j) = (codeN ls i / 2 ^ (n - 1 - j) % 2 == 1)) : ∀ (d l : Nat), l + d + 1 = n → nextC ls s N a (15 - l) l (codeN ls i / 2 ^ (n - l)) = ((i : Int), ((a + n : Nat) : Int), (0 : Int)) := by
  intro d
  induction d with
  | zero =>
    intro l hl
    rw [show 15 - l = (15 - l - 1) + 1 by omega, nextC, if_neg (symC_left hx h15 (by omega)), if_neg (by omega)]
    have hc : 2 * (codeN ls i / 2 ^ (n - l)) + (bitAt s (a + l)).toNat = codeN ls i := by
      rw [hb l (by omega), show n - l = 1 by omega, show n - 1 - l = 0 by omega]
      simp only [Nat.pow_one, Nat.pow_zero, Nat.div_one]
      rcases Nat.mod_two_eq_zero_or_one (codeN ls i) with e | e <;> rw [e] <;> simp <;> omega
    rw [hc, (findC_iff ls (codeN ls i) (l + 1) i (by omega) (by omega)).2 ⟨(List.getElem?_eq_some_iff.1 hx).1, by rw [hx]; congr 1; omega, rfl⟩]
    simp only [Prod.mk.injEq, true_and, and_true]
    omega
  | succ d ih =>
    intro l hl
    rw [show 15 - l = (15 - (l + 1)) + 1 by omega, nextC, if_neg (symC_left hx h15 (by omega)), if_neg (by omega)]
    have hc : 2 * (codeN ls i / 2 ^ (n - l)) + (bitAt s (a + l)).toNat = codeN ls i / 2 ^ (n - (l + 1)) := by
      rw [hb l (by omega), show n - l = (n - (l + 1)) + 1 by omega, show n - 1 - l = n - (l + 1) by omega, Nat.pow_succ, ← Nat.div_div_eq_div_mul]
      generalize codeN ls i / 2 ^ (n - (l + 1)) = y
      rcases Nat.mod_two_eq_zero_or_one y with e | e <;> rw [e] <;> simp <;> omega
    rw [hc]
    have hno : findC ls (codeN ls i / 2 ^ (n - (l + 1))) (l + 1) = none := by
      cases hf : findC ls (codeN ls i / 2 ^ (n - (l + 1))) (l + 1) with
      | none => rfl
      | some j =>
        obtain ⟨_, hj, hcj⟩ := (findC_iff ls _ (l + 1) j (by omega) (by omega)).1 hf
        have := apart_long hj hx (by omega) h15 (by omega)
        omega
    rw [hno]
    exact ih (l + 1) (by omega)
theorem cntC_snoc (ls : List Int) (x : Int) (l : Nat) : cntC (ls ++ [x]) l = cntC ls l + (if x = (l : Int) then 1 else 0) := by
  unfold cntC cntT
  rw [List.take_length, List.take_length, List.countP_append]
  by_cases h : x = (l : Int) <;> simp [h]
theorem nxtC_snoc (ls : List Int) (x : Int) (l : Nat) : nxtC (ls ++ [x]) l = nxtC ls l + (if 1 ≤ x ∧ x ≤ (l : Int) then 2 ^ (l - x.toNat) else 0) := by
  induction l with
  | zero => rw [if_neg (by omega)]; rfl
  | succ l ih =>
    rw [nxtC, nxtC, ih, cntC_snoc]
    by_cases h : 1 ≤ x ∧ x ≤ (l : Int)
    · rw [if_pos h, if_neg (by omega), if_pos (by omega), show l + 1 - x.toNat = (l - x.toNat) + 1 by omega, Nat.pow_succ]; omega
    · rw [if_neg h]
      by_cases h2 : x = ((l + 1 : Nat) : Int)
      · rw [if_pos h2, if_pos (by omega), show l + 1 - x.toNat = 0 by omega]; omega
      · rw [if_neg h2, if_neg (by omega)]; omega
theorem nxtC_used (ls : List Int) (h : ∀ x ∈ ls, x ≤ 15) : nxtC ls 15 = usedL 15 ls := by
  have key : ∀ k, k ≤ ls.length → nxtC (ls.take k) 15 = usedL 15 (ls.take k) := by
    intro k
    induction k with
    | zero => intro _; simp [usedL]; decide
    | succ k ih =>
      intro hk
      have hx : ls[k]? = some ls[k] := List.getElem?_eq_getElem (by omega)
      have hx15 := h _ (List.mem_of_getElem? hx)
      rw [usedL_step hx, List.take_add_one, hx]
      show nxtC (ls.take k ++ [ls[k]]) 15 = _
      rw [nxtC_snoc, ih (by omega)]
      by_cases h0 : 0 < ls[k]
      · rw [if_pos h0, if_pos (by omega)]
      · rw [if_neg h0, if_neg (by omega)]
  have := key ls.length (Nat.le_refl _)
  rwa [List.take_length] at this
theorem okL_all {ls : List Int} (h : okL ls = true) : ∀ x ∈ ls, x ≤ 15 := fun x hx => by
  obtain ⟨i, hi⟩ := List.getElem?_of_mem hx
  exact (okL_range h hi).2
theorem usedL_one {ls : List Int} (h : posL ls = 1) (h1 : hasL ls 1 = true) : usedL 15 ls = 16384 := by
  have hu : ∀ l : List Int, usedL 15 l = usedL 15 (l.filter fun x => decide (0 < x)) := by
    intro l
    induction l with
    | nil => rfl
    | cons x l ih =>
      rw [List.filter_cons]
      by_cases hx : 0 < x
      · simp only [hx, decide_true, if_true, usedL, ih]
      · simp only [hx, decide_false, if_false, usedL, ih, Bool.false_eq_true]; omega
  rw [hu]
  unfold posL at h
  have hm : (1 : Int) ∈ ls.filter fun x => decide (0 < x) := List.mem_filter.2 ⟨List.elem_iff.1 h1, (by decide : decide ((0 : Int) < 1) = true)⟩
  match hf : ls.filter (fun x => decide (0 < x)), h with
  | [y], _ =>
    rw [hf] at hm
    simp at hm
    subst hm
    decide
theorem used_le {ls : List Int} (h : okL ls = true) (hp : posL ls ≠ 0) : usedL 15 ls ≤ 32768 := by
  unfold okL at h
  simp only [Bool.and_eq_true, Bool.or_eq_true, decide_eq_true_eq] at h
  rcases h.2 with (h | h) | h
  · omega
  · exact absurd h hp
  · rw [usedL_one h.1 h.2]; omega
theorem posL_pos {ls : List Int} {i n : Nat} (hx : ls[i]? = some (n : Int)) (h1 : 1 ≤ n) : posL ls ≠ 0 := by
  unfold posL
  have : (n : Int) ∈ ls.filter (fun x => decide (0 < x)) := List.mem_filter.2 ⟨List.mem_of_getElem? hx, by simp; omega⟩
  intro h
  rw [List.eq_nil_of_length_eq_zero h] at this
  cases this
/-- A code's number fits its length. -/
theorem codeN_lt_pow {ls : List Int} {i n : Nat} (hok : okL ls = true) (hx : ls[i]? = some (n : Int)) (h1 : 1 ≤ n) (h15 : n ≤ 15) : codeN ls i < 2 ^ n := by
  have a := codeN_lt_nxt hx h1 h15
  have b := nxtC_up ls n (15 - n)
  rw [show n + (15 - n) = 15 by omega, nxtC_used ls (okL_all hok)] at b
  have c := used_le hok (posL_pos hx h1)
  have d : 2 ^ n * 2 ^ (15 - n) = 32768 := by rw [← Nat.pow_add, show n + (15 - n) = 15 by omega]
  refine Nat.lt_of_lt_of_le a ?_
  exact Nat.le_of_mul_le_mul_right (by omega : nxtC ls n * 2 ^ (15 - n) ≤ 2 ^ n * 2 ^ (15 - n)) (Nat.two_pow_pos _)
theorem next_sym {ls : List Int} {s : ByteArray} {n' i n : Nat} {l r : List Bool} (hok : okL ls = true) (hx : ls[i]? = some (n : Int)) (h1 : 1 ≤ n) (h15 : n ≤ 15) (hbs : Bs s n' (l ++ codeB ls i ++ r)) :
    nextC ls s n' l.length 15 0 0 = ((i : Int), ((l.length + n : Nat) : Int), (0 : Int)) := by
  have hlen : (codeB ls i).length = n := by unfold codeB; rw [natBits_length, lenN_of hx, Int.toNat_natCast]
  have hn' : n' = (l ++ codeB ls i ++ r).length := by have := hbs.2.1; omega
  have hz : codeN ls i / 2 ^ (n - 0) = 0 := by
    have h2 := codeN_lt_pow hok hx h1 h15
    rw [Nat.sub_zero]; exact Nat.div_eq_of_lt h2
  have := next_code (s := s) (N := n') (a := l.length) hx h1 h15 (by rw [hn']; simp [hlen]) (fun j hj => by
    have hb := hbs.2.2
    have e : (bitsL s (l ++ codeB ls i ++ r).length)[l.length + j]? = (l ++ codeB ls i ++ r)[l.length + j]? := by rw [hb]
    rw [bitsL_get s (by simp [hlen]; omega), List.getElem?_append_left (by simp [hlen]; omega), List.getElem?_append_right (by omega), Nat.add_sub_cancel_left] at e
    unfold codeB at e
    rw [lenN_of hx, Int.toNat_natCast, natBits_get _ _ _ hj] at e
    simpa using e) (n - 1) 0 (by omega)
  rw [hz] at this
  exact this
#print axioms next_sym
end Go.Proofs.Ytggffiikfelbjaa
