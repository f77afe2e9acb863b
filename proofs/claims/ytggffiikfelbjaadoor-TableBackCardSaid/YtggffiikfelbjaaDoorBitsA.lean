/- Walks: bits.Check, wringerref01.Is, wringerref01.Check. -/
import Derived.Test.YtggffiikfelbjaaDoorBitsPlain
namespace Go.Proofs.YtggffiikfelbjaaDoor
open Go.RowKit

/-- A Bitstr as a value. -/
abbrev bstr (s : ByteArray) (n : Int) : Value := .agg #[.string s, .int .i64 n]

theorem chkB_yes {s : ByteArray} {n : Int} (h0 : 0 ≤ n) (h1 : n ≤ 1048576) (h2 : ((s.size : Int) != (n + 8 - 1) / 8) = false) (h3 : n % 8 = 0 ∨ byt s (s.size - 1) * 2 ^ (n % 8).toNat % 256 = 0) : chkB s n = 0 := by
  have h2 : (s.size : Int) = (n + 8 - 1) / 8 := by simpa using h2
  have : rightB s n = true := by
    simp only [rightB, Bool.and_eq_true, Bool.or_eq_true, decide_eq_true_eq]
    exact ⟨⟨h0, h1, by omega⟩, h3⟩
  simp [chkB, this]
theorem chkB_no {s : ByteArray} {n : Int} (h : n < 0 ∨ 1048576 < n ∨ ((s.size : Int) != (n + 8 - 1) / 8) = true ∨ (n % 8 ≠ 0 ∧ byt s (s.size - 1) * 2 ^ (n % 8).toNat % 256 ≠ 0)) : chkB s n = 2 := by
  have : rightB s n = false := by
    rcases Bool.eq_false_or_eq_true (rightB s n) with hr | hr
    · exfalso
      simp only [rightB, Bool.and_eq_true, Bool.or_eq_true, decide_eq_true_eq] at hr
      obtain ⟨⟨a, b, c⟩, d⟩ := hr
      rcases h with h | h | h | h
      · omega
      · omega
      · simp at h; omega
      · rcases d with d | d
        · exact h.1 d
        · exact h.2 d
    · exact hr
  simp [chkB, this]

theorem low_cast (x r : Nat) : ((x : Nat) : Int) * 2 ^ r % 256 = ((x * 2 ^ r % 256 : Nat) : Int) := by
  rw [Int.natCast_emod, Int.natCast_mul, Int.natCast_pow]; rfl
theorem low_ne {x : Nat} {r : Nat} (d : (((x : Nat) : Int) * 2 ^ r % 256 != 0) = true) : x * 2 ^ r % 256 ≠ 0 := by
  rw [low_cast, bne_iff_ne] at d
  omega
theorem low_eq {x : Nat} {r : Nat} (d : (((x : Nat) : Int) * 2 ^ r % 256 != 0) = false) : x * 2 ^ r % 256 = 0 := by
  rw [low_cast] at d
  rcases Nat.eq_zero_or_pos (x * 2 ^ r % 256) with h | h
  · exact h
  · rw [bne_iff_ne.2 (by omega)] at d; cases d
set_option maxHeartbeats 400000 in
theorem check_any (s : ByteArray) (n : Int) (w : World) (h0 : I64 n) (hs : s.size ≤ 9223372036854775807) :
    Calls Tryd.prog 12 #[bstr s n] w fun e w' => e = .returned (.int .i64 (chkB s n)) ∧ Below w.heap.size w w' := by
  obtain ⟨h0, h1⟩ := h0
  go_enter Tryd.func12, Tryd.ntmps12
  go_wp2
  · have a : (n < 0 ∨ 1048576 < n) ∨ ((s.size : Int) != (n + 8 - 1) / 8) = true := by assumption
    go_ret
    exact ⟨ret_int (chkB_no (by rcases a with a | a <;> simp [a] <;> omega)).symm, by go_grown⟩
  · have a : (0 ≤ n ∧ n ≤ 1048576) ∧ ((s.size : Int) != (n + 8 - 1) / 8) = false := by assumption
    have b : 0 < n % 8 := by assumption
    have c : (1 : Int) ≤ ↑s.size ∧ (s.size : Int) - 1 < ↑s.size := by assumption
    rename_i d
    rw [byt_of s (by omega)] at d
    go_ret
    exact ⟨ret_int (chkB_no (.inr (.inr (.inr ⟨by omega, fun h => low_ne d h⟩)))).symm, by go_grown⟩
  · have a : (0 ≤ n ∧ n ≤ 1048576) ∧ ((s.size : Int) != (n + 8 - 1) / 8) = false := by assumption
    have b : 0 < n % 8 := by assumption
    have c : (1 : Int) ≤ ↑s.size ∧ (s.size : Int) - 1 < ↑s.size := by assumption
    rename_i d
    rw [byt_of s (by omega)] at d
    go_ret
    exact ⟨ret_int (chkB_yes a.1.1 a.1.2 a.2 (.inr (low_eq d))).symm, by go_grown⟩
  · exfalso
    have a : (0 ≤ n ∧ n ≤ 1048576) ∧ ((s.size : Int) != (n + 8 - 1) / 8) = false := by assumption
    have b : 0 < n % 8 := by assumption
    have c : ¬ ((1 : Int) ≤ ↑s.size ∧ (s.size : Int) - 1 < ↑s.size) := by assumption
    have := a.2; simp at this; omega
  · have a : (0 ≤ n ∧ n ≤ 1048576) ∧ ((s.size : Int) != (n + 8 - 1) / 8) = false := by assumption
    have b : n % 8 ≤ 0 := by assumption
    go_ret
    exact ⟨ret_int (chkB_yes a.1.1 a.1.2 a.2 (.inl (by omega))).symm, by go_grown⟩
  · go_ret
    exact ⟨ret_int (chkB_no (.inr (.inl (by assumption)))).symm, by go_grown⟩
  · go_ret
    exact ⟨ret_int (chkB_no (.inl (by assumption))).symm, by go_grown⟩

theorem is_val (s : ByteArray) (i : Nat) (h : i / 8 < s.size) : ((((s[i / 8]'h).toNat : Int) / 2 ^ (7 - i % 8)).tmod 2 == 1) = bitAt s i := by
  rw [byt_of]
  have e : ((byt s (i / 8) : Nat) : Int) / 2 ^ (7 - i % 8) = ((byt s (i / 8) / 2 ^ (7 - i % 8) : Nat) : Int) := by push_cast; rfl
  rw [e, Int.tmod_eq_emod_of_nonneg (Int.natCast_nonneg _)]
  unfold bitAt
  rw [Bool.eq_iff_iff, beq_iff_eq, beq_iff_eq]
  omega
end Go.Proofs.YtggffiikfelbjaaDoor
