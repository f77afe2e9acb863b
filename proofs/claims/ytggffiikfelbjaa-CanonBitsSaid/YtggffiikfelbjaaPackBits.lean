/- Bits put into bytes one by one, plainly. No program in sight. -/
import Derived.Test.YtggffiikfelbjaaBitsPlain
namespace Go.Proofs.Ytggffiikfelbjaa
open Go.RowKit

theorem byte_or : ∀ (x : Fin 256) (b c : Fin 8), x.val / 2 ^ b.val % 2 = 0 → (x.val + 2 ^ b.val < 256 ∧ (x.val + 2 ^ b.val) / 2 ^ c.val % 2 = if c = b then 1 else x.val / 2 ^ c.val % 2) := by decide +kernel
/-- The bytes B hold the first k bits of l, and zeros. -/
def PackSt (l : List Bool) (k : Nat) (B : List Nat) : Prop :=
  B.length = (l.length + 7) / 8 ∧ (∀ x ∈ B, x < 256) ∧ ∀ i, i < 8 * B.length → (B.getD (i / 8) 0 / 2 ^ (7 - i % 8) % 2 == 1) = (if i < k then l.getD i false else false)
theorem PackSt.zero (l : List Bool) : PackSt l 0 (List.replicate ((l.length + 7) / 8) 0) := by
  refine ⟨by simp, ?_, ?_⟩
  · intro x hx; rw [List.eq_of_mem_replicate hx]; omega
  · intro i hi
    rw [List.length_replicate] at hi
    have h8 : i / 8 < (l.length + 7) / 8 := by omega
    simp [List.getD_eq_getElem?_getD, h8]
theorem PackSt.skip {l : List Bool} {k : Nat} {B : List Nat} (h : PackSt l k B) (hk : l.getD k false = false) : PackSt l (k + 1) B := by
  refine ⟨h.1, h.2.1, fun i hi => ?_⟩
  rw [h.2.2 i hi]
  by_cases g : i < k
  · rw [if_pos g, if_pos (by omega)]
  · rw [if_neg g]
    by_cases g2 : i = k
    · subst g2; rw [if_pos (by omega), hk]
    · rw [if_neg (by omega)]
theorem PackSt.byte {l : List Bool} {k : Nat} {B : List Nat} (h : PackSt l k B) (hk : k < l.length) : ∃ x, B[k / 8]? = some x ∧ x < 256 ∧ x / 2 ^ (7 - k % 8) % 2 = 0 ∧ x + 2 ^ (7 - k % 8) < 256 := by
  have hB := h.1
  have h8 : k / 8 < B.length := by omega
  have hx := List.getElem?_eq_getElem h8
  have hx2 := h.2.1 _ (List.getElem_mem h8)
  have hz := h.2.2 k (by omega)
  rw [if_neg (Nat.lt_irrefl _), List.getD_eq_getElem?_getD, hx, Option.getD_some] at hz
  have hz' : B[k / 8] / 2 ^ (7 - k % 8) % 2 = 0 := by
    rcases Nat.mod_two_eq_zero_or_one (B[k / 8] / 2 ^ (7 - k % 8)) with e | e
    · exact e
    · rw [e] at hz; cases hz
  exact ⟨_, hx, hx2, hz', (byte_or ⟨B[k / 8], hx2⟩ ⟨7 - k % 8, by omega⟩ ⟨0, by omega⟩ hz').1⟩
theorem PackSt.put {l : List Bool} {k x : Nat} {B : List Nat} (h : PackSt l k B) (hk : k < l.length) (hl : l.getD k false = true) (hx : B[k / 8]? = some x) : PackSt l (k + 1) (B.set (k / 8) (x + 2 ^ (7 - k % 8))) := by
  obtain ⟨x', hx', h256, hz, hlt⟩ := h.byte hk
  rw [hx] at hx'; cases hx'
  have h8 : k / 8 < B.length := (List.getElem?_eq_some_iff.1 hx).1
  refine ⟨by rw [List.length_set]; exact h.1, ?_, ?_⟩
  · intro y hy
    rcases List.mem_or_eq_of_mem_set hy with g | g
    · exact h.2.1 _ g
    · omega
  · intro i hi
    rw [List.length_set] at hi
    have hi8 : i / 8 < B.length := by omega
    have ho := h.2.2 i hi
    rw [List.getD_eq_getElem?_getD] at ho ⊢
    rw [List.getElem?_set]
    by_cases g : k / 8 = i / 8
    · rw [if_pos g, if_pos h8, Option.getD_some]
      rw [← g, hx, Option.getD_some] at ho
      have hb := (byte_or ⟨x, h256⟩ ⟨7 - k % 8, by omega⟩ ⟨7 - i % 8, by omega⟩ hz).2
      simp only at hb
      rw [hb]
      by_cases g2 : i = k
      · subst g2; rw [if_pos rfl, if_pos (by omega), hl]; rfl
      · rw [if_neg (by intro e; simp only [Fin.mk.injEq] at e; omega), ho]
        by_cases g3 : i < k
        · rw [if_pos g3, if_pos (by omega)]
        · rw [if_neg g3, if_neg (by omega)]
    · rw [if_neg g, ho]
      by_cases g3 : i < k
      · rw [if_pos g3, if_pos (by omega)]
      · rw [if_neg g3, if_neg (by omega)]
theorem PackSt.bs {l : List Bool} {B : List Nat} (h : PackSt l l.length B) (hl : l.length ≤ 1048576) : Bs (strOf B) l.length l := by
  refine Bs.mk hl (by rw [strOf_size]; exact h.1) fun i hi => ?_
  rw [strOf_size] at hi
  unfold bitAt
  rw [strOf_byt B h.2.1, h.2.2 i hi]
  by_cases g : i < l.length
  · rw [if_pos g]
  · rw [if_neg g, List.getD_eq_getElem?_getD, List.getElem?_eq_none (by omega)]; rfl
theorem natBits_more (v : Nat) {m k : Nat} (h : k < m) : (natBits v m).take (k + 1) = (natBits v m).take k ++ [v / 2 ^ (m - 1 - k) % 2 == 1] := by
  rw [List.take_add_one, natBits_get v m k h]; rfl
theorem bitsL_more (s : ByteArray) (k : Nat) : bitsL s (k + 1) = bitsL s k ++ [bitAt s k] := by
  unfold bitsL; rw [List.range_succ, List.map_append]; rfl
#print axioms PackSt.put
end Go.Proofs.Ytggffiikfelbjaa
