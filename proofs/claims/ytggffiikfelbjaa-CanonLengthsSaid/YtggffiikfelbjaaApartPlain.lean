/- Codes stand apart, plainly: no code is the beginning of another one; shorter ones are ahead of longer ones. No program in sight. -/
import Derived.Test.YtggffiikfelbjaaCWrite
namespace Go.Proofs.Ytggffiikfelbjaa
open Go.RowKit

theorem nxtC_fst (ls : List Int) {l : Nat} (h : 1 ≤ l) : nxtC ls l = fstC ls l + cntC ls l := by
  obtain ⟨m, rfl⟩ : ∃ m, l = m + 1 := ⟨l - 1, by omega⟩
  rw [nxtC, fstC]; rfl
theorem nxtC_up (ls : List Int) (l d : Nat) : nxtC ls l * 2 ^ d ≤ nxtC ls (l + d) := by
  induction d with
  | zero => simp
  | succ d ih =>
    rw [← Nat.add_assoc, nxtC, Nat.pow_succ, ← Nat.mul_assoc]; omega
theorem fstC_up (ls : List Int) {l m : Nat} (h : l < m) : nxtC ls l * 2 ^ (m - l) ≤ fstC ls m := by
  have h1 := nxtC_up ls l (m - 1 - l)
  rw [show l + (m - 1 - l) = m - 1 by omega] at h1
  have h2 : 2 ^ (m - l) = 2 ^ (m - 1 - l) * 2 := by rw [← Nat.pow_succ]; congr 1; omega
  rw [h2, ← Nat.mul_assoc]
  unfold fstC; omega
theorem codeN_eq {ls : List Int} {i : Nat} {n : Nat} (hx : ls[i]? = some (n : Int)) (h1 : 1 ≤ n) (h15 : n ≤ 15) : codeN ls i = fstC ls n + cntT ls n i := by
  unfold codeN
  rw [lenN_of hx, Int.toNat_natCast, if_pos ⟨h1, h15⟩]
theorem cntT_mono (ls : List Int) (l : Nat) {a b : Nat} (h : a ≤ b) : cntT ls l a ≤ cntT ls l b := by
  unfold cntT; exact List.Sublist.countP_le (List.take_sublist_take_left h)
theorem cntT_lt {ls : List Int} {i n k : Nat} (hx : ls[i]? = some (n : Int)) (h : i < k) : cntT ls n i < cntT ls n k := by
  have := cntT_mono ls n (show i + 1 ≤ k by omega)
  rw [cntT_step hx, if_pos rfl] at this; omega
theorem codeN_lt_nxt {ls : List Int} {i n : Nat} (hx : ls[i]? = some (n : Int)) (h1 : 1 ≤ n) (h15 : n ≤ 15) : codeN ls i < nxtC ls n := by
  rw [codeN_eq hx h1 h15, nxtC_fst ls h1]
  have := cntT_lt hx (List.getElem?_eq_some_iff.1 hx).1
  unfold cntC; omega
/-- A longer code's beginning is above a shorter code. -/
theorem apart_long {ls : List Int} {i k n m : Nat} (hi : ls[i]? = some (n : Int)) (hk : ls[k]? = some (m : Int)) (h1 : 1 ≤ n) (h15 : m ≤ 15) (h : n < m) : codeN ls i < codeN ls k / 2 ^ (m - n) := by
  have a := codeN_lt_nxt hi h1 (by omega)
  have b := fstC_up ls h
  have c := codeN_eq hk (by omega) h15
  refine Nat.lt_of_lt_of_le a ?_
  rw [Nat.le_div_iff_mul_le (Nat.two_pow_pos _)]
  omega
/-- Codes of one length rise. -/
theorem apart_same {ls : List Int} {i k n : Nat} (hi : ls[i]? = some (n : Int)) (hk : ls[k]? = some (n : Int)) (h1 : 1 ≤ n) (h15 : n ≤ 15) (h : i < k) : codeN ls i < codeN ls k := by
  rw [codeN_eq hi h1 h15, codeN_eq hk h1 h15]
  have := cntT_lt hi h; omega
#print axioms apart_long
end Go.Proofs.Ytggffiikfelbjaa
