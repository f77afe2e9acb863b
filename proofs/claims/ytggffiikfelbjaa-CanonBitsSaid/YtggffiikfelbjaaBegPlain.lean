/- Where reading by definition goes on, plainly: some longer code begins with these bits just when symbols are left. No program in sight. -/
import Derived.Test.YtggffiikfelbjaaBackPlain
import Derived.Test.YtggffiikfelbjaaRefFind
import Derived.Test.YtggffiikfelbjaaRead
namespace Go.Proofs.Ytggffiikfelbjaa
open Go.RowKit

theorem findC_in {ls : List Int} {code m : Nat} (h1 : 1 ≤ m) (h : fstC ls m ≤ code) (h2 : code < nxtC ls m) : ∃ j, findC ls code m = some j := by
  rw [nxtC_fst ls h1] at h2
  unfold findC
  rw [if_pos ⟨h, h2⟩]
  have : code - fstC ls m < (idxC ls m).length := by
    unfold idxC; rw [idxT_length _ _ _ (Nat.le_refl _)]; unfold cntC at h2; omega
  exact ⟨_, List.getElem?_eq_getElem this⟩
theorem findC_out {ls : List Int} {code L : Nat} (h1 : 1 ≤ L) (h : fstC ls L ≤ code) (hn : findC ls code L = none) : nxtC ls L ≤ code := by
  rcases Nat.lt_or_ge code (nxtC ls L) with g | g
  · obtain ⟨j, hj⟩ := findC_in h1 h g
    rw [hn] at hj; cases hj
  · exact g
theorem cntC_some {ls : List Int} {l : Nat} (h : cntC ls l ≠ 0) : ∃ j : Nat, ls[j]? = some (l : Int) := by
  unfold cntC cntT at h
  rw [List.take_length] at h
  obtain ⟨x, hx, he⟩ := List.countP_pos_iff.1 (show 0 < List.countP (fun x => decide (x = (l : Int))) ls by omega)
  obtain ⟨j, hj⟩ := List.getElem?_of_mem hx
  simp only [decide_eq_true_eq] at he
  exact ⟨j, by rw [hj, he]⟩
theorem symC_more {ls : List Int} {L : Nat} (d : Nat) (h : (symC ls (L + d)).length ≠ (symC ls L).length) : ∃ m j : Nat, L < m ∧ m ≤ L + d ∧ ls[j]? = some (m : Int) := by
  induction d with
  | zero => exact absurd rfl h
  | succ d ih =>
    by_cases g : (symC ls (L + d)).length = (symC ls L).length
    · rw [← Nat.add_assoc, symC_step_len, g] at h
      obtain ⟨j, hj⟩ := cntC_some (ls := ls) (l := L + d + 1) (by omega)
      exact ⟨L + d + 1, j, by omega, by omega, hj⟩
    · obtain ⟨m, j, a, b, c⟩ := ih g
      exact ⟨m, j, a, by omega, c⟩
theorem first_over {ls : List Int} {L C : Nat} (h : nxtC ls L ≤ C) : ∀ d, (nxtC ls (L + d) ≤ C * 2 ^ d) ∨ ∃ m, L < m ∧ m ≤ L + d ∧ fstC ls m ≤ C * 2 ^ (m - L) ∧ C * 2 ^ (m - L) < nxtC ls m := by
  intro d
  induction d with
  | zero => left; simpa using h
  | succ d ih =>
    rcases ih with ih | ⟨m, a, b, c⟩
    · by_cases g : nxtC ls (L + (d + 1)) ≤ C * 2 ^ (d + 1)
      · exact .inl g
      · right
        refine ⟨L + (d + 1), by omega, by omega, ?_, ?_⟩
        · unfold fstC
          rw [show L + (d + 1) - 1 = L + d by omega, show L + (d + 1) - L = d + 1 by omega, Nat.pow_succ, ← Nat.mul_assoc]; omega
        · rw [show L + (d + 1) - L = d + 1 by omega]; omega
    · exact .inr ⟨m, a, by omega, c⟩
theorem okL_cases {ls : List Int} (h : okL ls = true) : nxtC ls 15 = 32768 ∨ posL ls = 0 ∨ (hasL ls 1 = true ∧ nxtC ls 15 = 16384) := by
  have hu := nxtC_used ls (okL_all h)
  unfold okL at h
  simp only [Bool.and_eq_true, Bool.or_eq_true, decide_eq_true_eq] at h
  rcases h.2 with (h | h) | h
  · left; omega
  · exact .inr (.inl h)
  · exact .inr (.inr ⟨h.2, by rw [hu]; exact usedL_one h.1 h.2⟩)
theorem begL_iff {ls : List Int} {C L : Nat} (hok : okL ls = true) (hL : L ≤ 15) (hC : C < 2 ^ L) (hge : nxtC ls L ≤ C) : begL ls C L ls.length ↔ (symC ls 15).length ≠ (symC ls L).length := by
  constructor
  · rintro ⟨j, m, hj, hx, hm, _⟩
    have := okL_range hok hx
    exact symC_left hx (by omega) hm
  · intro hne
    obtain ⟨m, j, h1, h2, hx⟩ := symC_more (ls := ls) (L := L) (15 - L) (by rw [show L + (15 - L) = 15 by omega]; exact hne)
    have hj := (List.getElem?_eq_some_iff.1 hx).1
    by_cases h0 : L = 0
    · subst h0
      have := codeN_lt_pow hok hx (by omega) (by omega)
      refine ⟨j, m, hj, hx, h1, ?_⟩
      rw [Nat.sub_zero, Nat.div_eq_of_lt this]
      simp at hC; omega
    · rcases okL_cases hok with g | g | ⟨g, g'⟩
      · rcases first_over hge (15 - L) with k | ⟨m', k1, k2, k3, k4⟩
        · rw [show L + (15 - L) = 15 by omega, g] at k
          have e : 2 ^ L * 2 ^ (15 - L) = 32768 := by rw [← Nat.pow_add, show L + (15 - L) = 15 by omega]
          have := Nat.mul_lt_mul_of_pos_right hC (Nat.two_pow_pos (15 - L))
          omega
        · obtain ⟨i, hi⟩ := findC_in (by omega) k3 k4
          obtain ⟨a, b, c⟩ := (findC_iff ls _ m' i (by omega) (by omega)).1 hi
          exact ⟨i, m', a, b, k1, by rw [c, Nat.mul_div_cancel _ (Nat.two_pow_pos _)]⟩
      · exact absurd g (posL_pos hx (by omega))
      · exfalso
        obtain ⟨i, hi⟩ := List.getElem?_of_mem (List.elem_iff.1 g)
        have a := cntC_pos (ls := ls) (i := i) (n := 1) hi
        have b := fstC_up ls (show 1 < m by omega)
        have c : nxtC ls 1 = cntC ls 1 := by show 2 * nxtC ls 0 + cntC ls 1 = _; rw [show nxtC ls 0 = 0 from rfl]; omega
        have d := nxtC_fst ls (show 1 ≤ m by omega)
        have e := cntC_pos hx
        have f := nxtC_up ls m (15 - m)
        rw [show m + (15 - m) = 15 by omega, g'] at f
        have k1 : nxtC ls m ≥ 2 ^ (m - 1) + 1 := by
          have := Nat.mul_le_mul_right (2 ^ (m - 1)) (show 1 ≤ nxtC ls 1 by omega)
          omega
        have k2 := Nat.mul_le_mul_right (2 ^ (15 - m)) k1
        have k3 : 2 ^ (m - 1) * 2 ^ (15 - m) = 16384 := by rw [← Nat.pow_add, show m - 1 + (15 - m) = 14 by omega]
        have k4 := Nat.two_pow_pos (15 - m)
        rw [Nat.add_mul, k3] at k2
        omega

/-- What reading by definition answers from length L on, C being the bits so far: ahead of asking for a symbol. -/
def refR (ls : List Int) (s : ByteArray) (N a L C : Nat) : Int × Int × Int :=
  if L = 0 then nextC ls s N a 15 0 0 else match findC ls C L with
    | some i => ((i : Nat), ((a + L : Nat) : Int), 0)
    | none => nextC ls s N a (15 - L) L C
/-- What it knows there. -/
def RefOk (ls : List Int) (L C : Nat) : Prop := L ≤ 15 ∧ C < 2 ^ L ∧ (if L = 0 then True else fstC ls L ≤ C)
theorem refR_found {ls : List Int} {s : ByteArray} {N a L C i : Nat} (h1 : 1 ≤ L) (h : findC ls C L = some i) : refR ls s N a L C = ((i : Int), ((a + L : Nat) : Int), (0 : Int)) := by
  unfold refR; rw [if_neg (by omega), h]
theorem refR_none {ls : List Int} {s : ByteArray} {N a L C : Nat} (hk : RefOk ls L C) (h : L = 0 ∨ findC ls C L = none) : refR ls s N a L C = nextC ls s N a (15 - L) L C ∧ nxtC ls L ≤ C := by
  obtain ⟨a1, a2, a3⟩ := hk
  unfold refR
  by_cases h0 : L = 0
  · subst h0
    have : C = 0 := by simp at a2; omega
    subst this
    exact ⟨by rw [if_pos rfl], by simp [nxtC]⟩
  · rw [if_neg h0] at a3 ⊢
    have hn : findC ls C L = none := h.resolve_left h0
    rw [hn]
    exact ⟨rfl, findC_out (by omega) a3 hn⟩
theorem nextC_done {ls : List Int} {s : ByteArray} {N a L C : Nat} (hok : okL ls = true) (hk : RefOk ls L C) (hn : nxtC ls L ≤ C) (h : ¬ begL ls C L ls.length) : nextC ls s N a (15 - L) L C = (0, 0, 7) := by
  have := mt (begL_iff hok hk.1 hk.2.1 hn).2 h
  by_cases g : L = 15
  · subst g; rfl
  · have h15 := hk.1
    rw [show 15 - L = (15 - L - 1) + 1 by omega, nextC, if_pos (by omega)]
theorem begL_lt {ls : List Int} {L C : Nat} (hok : okL ls = true) (h : begL ls C L ls.length) : L < 15 := by
  obtain ⟨j, m, _, hx, hm, _⟩ := h
  have := okL_range hok hx
  omega
theorem nextC_short {ls : List Int} {s : ByteArray} {N a L C : Nat} (hok : okL ls = true) (hk : RefOk ls L C) (hn : nxtC ls L ≤ C) (h : begL ls C L ls.length) (hs : N ≤ a + L) : nextC ls s N a (15 - L) L C = (0, 0, 5) := by
  have h1 := (begL_iff hok hk.1 hk.2.1 hn).1 h
  have h2 := begL_lt hok h
  rw [show 15 - L = (15 - L - 1) + 1 by omega, nextC, if_neg (by omega), if_pos (by omega)]
theorem nextC_go {ls : List Int} {s : ByteArray} {N a L C : Nat} (hok : okL ls = true) (hk : RefOk ls L C) (hn : nxtC ls L ≤ C) (h : begL ls C L ls.length) (hs : ¬ N ≤ a + L) :
    nextC ls s N a (15 - L) L C = refR ls s N a (L + 1) (2 * C + (bitAt s (a + L)).toNat) ∧ RefOk ls (L + 1) (2 * C + (bitAt s (a + L)).toNat) := by
  have h1 := (begL_iff hok hk.1 hk.2.1 hn).1 h
  have h2 := begL_lt hok h
  have h3 : (bitAt s (a + L)).toNat ≤ 1 := by cases bitAt s (a + L) <;> decide
  constructor
  · rw [show 15 - L = (15 - L - 1) + 1 by omega, nextC, if_neg (by omega), if_neg (by omega)]
    unfold refR
    rw [if_neg (by omega), show 15 - (L + 1) = 15 - L - 1 by omega, ← Nat.add_assoc]
    cases findC ls (2 * C + (bitAt s (a + L)).toNat) (L + 1) <;> rfl
  · refine ⟨by omega, ?_, ?_⟩
    · have := hk.2.1; rw [Nat.pow_succ]; omega
    · rw [if_neg (by omega)]; unfold fstC; rw [Nat.add_sub_cancel]; omega
theorem RefOk.zero (ls : List Int) : RefOk ls 0 0 := ⟨by omega, by decide, by rw [if_pos rfl]; trivial⟩
theorem findR_hit {ls : List Int} {C L i : Nat} (hok : okL ls = true) (h1 : 1 ≤ L) (h15 : L ≤ 15) (h : findC ls C L = some i) : findR ls (C : Nat) (L : Nat) = ((i : Int), (0 : Int)) := by
  unfold findR
  rw [if_pos hok, if_neg (by omega), Int.toNat_natCast, Int.toNat_natCast, h]
theorem findR_miss {ls : List Int} {C L : Nat} (hok : okL ls = true) (h15 : L ≤ 15) (h : L = 0 ∨ findC ls C L = none) : findR ls (C : Nat) (L : Nat) = ((0 : Int), (3 : Int)) := by
  unfold findR
  rw [if_pos hok]
  by_cases h0 : L = 0
  · rw [if_pos (by omega)]
  · rw [if_neg (by omega), Int.toNat_natCast, Int.toNat_natCast, h.resolve_left h0]
#print axioms begL_iff
end Go.Proofs.Ytggffiikfelbjaa
