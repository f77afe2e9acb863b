/- Walks: bits.Check, wringerref01.Is, wringerref01.Check. -/
import Derived.Test.YtggffiikfelbjaaBitsPlain
namespace Go.Proofs.Ytggffiikfelbjaa
open Go.RowKit

/-- A Bitstr as a value. -/
abbrev bstr (s : ByteArray) (n : Int) : Value := .agg #[.string s, .int .i64 n]

theorem chkB_yes {s : ByteArray} {n : Int} (h0 : 0 ≤ n) (h1 : n ≤ 1048576) (h2 : ((s.size : Int) != (n + 8 - 1) / 8) = false) (h3 : n % 8 = 0 ∨ byt s (s.size - 1) * 2 ^ (n % 8).toNat % 256 = 0) : chkB s n = 0 := by
  have h2 : (s.size : Int) = (n + 8 - 1) / 8 := by simpa using h2
  have : rightB s n = true := by
    simp only [rightB, Bool.and_eq_true, Bool.or_eq_true, decide_eq_true_eq]
    exact ⟨⟨h0, h1, by omega⟩, h3⟩
  simp [chkB, this]
theorem chkB_no {s : ByteArray} {n : Int} (h : n < 0 ∨ 1048576 < n ∨ ((s.size : Int) != (n + 8 - 1) / 8) = true ∨ (n % 8 ≠ 0 ∧ byt s (s.size - 1) * 2 ^ (n % 8).toNat % 256 ≠ 0)) : chkB s n = 2 := by
  have : rightB s n = false := by
    rcases Bool.eq_false_or_eq_true (rightB s n) with hr | hr
    · exfalso
      simp only [rightB, Bool.and_eq_true, Bool.or_eq_true, decide_eq_true_eq] at hr
      obtain ⟨⟨a, b, c⟩, d⟩ := hr
      rcases h with h | h | h | h
      · omega
      · omega
      · simp at h; omega
      · rcases d with d | d
        · exact h.1 d
        · exact h.2 d
    · exact hr
  simp [chkB, this]

theorem low_cast (x r : Nat) : ((x : Nat) : Int) * 2 ^ r % 256 = ((x * 2 ^ r % 256 : Nat) : Int) := by
  rw [Int.natCast_emod, Int.natCast_mul, Int.natCast_pow]; rfl
theorem low_ne {x : Nat} {r : Nat} (d : (((x : Nat) : Int) * 2 ^ r % 256 != 0) = true) : x * 2 ^ r % 256 ≠ 0 := by
  rw [low_cast, bne_iff_ne] at d
  omega
theorem low_eq {x : Nat} {r : Nat} (d : (((x : Nat) : Int) * 2 ^ r % 256 != 0) = false) : x * 2 ^ r % 256 = 0 := by
  rw [low_cast] at d
  rcases Nat.eq_zero_or_pos (x * 2 ^ r % 256) with h | h
  · exact h
  · rw [bne_iff_ne.2 (by omega)] at d; cases d
set_option maxHeartbeats 400000 in
theorem check_any (s : ByteArray) (n : Int) (w : World) (h0 : I64 n) (hs : s.size ≤ 9223372036854775807) :
    Calls Try.prog 37 #[bstr s n] w fun e w' => e = .returned (.int .i64 (chkB s n)) ∧ Below w.heap.size w w' := by
  obtain ⟨h0, h1⟩ := h0
  go_enter Try.func37, Try.ntmps37
  go_wp2
  · have a : (n < 0 ∨ 1048576 < n) ∨ ((s.size : Int) != (n + 8 - 1) / 8) = true := by assumption
    go_ret
    exact ⟨ret_int (chkB_no (by rcases a with a | a <;> simp [a] <;> omega)).symm, by go_grown⟩
  · have a : (0 ≤ n ∧ n ≤ 1048576) ∧ ((s.size : Int) != (n + 8 - 1) / 8) = false := by assumption
    have b : 0 < n % 8 := by assumption
    have c : (1 : Int) ≤ ↑s.size ∧ (s.size : Int) - 1 < ↑s.size := by assumption
    rename_i d
    rw [byt_of s (by omega)] at d
    go_ret
    exact ⟨ret_int (chkB_no (.inr (.inr (.inr ⟨by omega, fun h => low_ne d h⟩)))).symm, by go_grown⟩
  · have a : (0 ≤ n ∧ n ≤ 1048576) ∧ ((s.size : Int) != (n + 8 - 1) / 8) = false := by assumption
    have b : 0 < n % 8 := by assumption
    have c : (1 : Int) ≤ ↑s.size ∧ (s.size : Int) - 1 < ↑s.size := by assumption
    rename_i d
    rw [byt_of s (by omega)] at d
    go_ret
    exact ⟨ret_int (chkB_yes a.1.1 a.1.2 a.2 (.inr (low_eq d))).symm, by go_grown⟩
  · exfalso
    have a : (0 ≤ n ∧ n ≤ 1048576) ∧ ((s.size : Int) != (n + 8 - 1) / 8) = false := by assumption
    have b : 0 < n % 8 := by assumption
    have c : ¬ ((1 : Int) ≤ ↑s.size ∧ (s.size : Int) - 1 < ↑s.size) := by assumption
    have := a.2; simp at this; omega
  · have a : (0 ≤ n ∧ n ≤ 1048576) ∧ ((s.size : Int) != (n + 8 - 1) / 8) = false := by assumption
    have b : n % 8 ≤ 0 := by assumption
    go_ret
    exact ⟨ret_int (chkB_yes a.1.1 a.1.2 a.2 (.inl (by omega))).symm, by go_grown⟩
  · go_ret
    exact ⟨ret_int (chkB_no (.inr (.inl (by assumption)))).symm, by go_grown⟩
  · go_ret
    exact ⟨ret_int (chkB_no (.inl (by assumption))).symm, by go_grown⟩

theorem is_val (s : ByteArray) (i : Nat) (h : i / 8 < s.size) : ((((s[i / 8]'h).toNat : Int) / 2 ^ (7 - i % 8)).tmod 2 == 1) = bitAt s i := by
  rw [byt_of]
  have e : ((byt s (i / 8) : Nat) : Int) / 2 ^ (7 - i % 8) = ((byt s (i / 8) / 2 ^ (7 - i % 8) : Nat) : Int) := by push_cast; rfl
  rw [e, Int.tmod_eq_emod_of_nonneg (Int.natCast_nonneg _)]
  unfold bitAt
  rw [Bool.eq_iff_iff, beq_iff_eq, beq_iff_eq]
  omega
set_option maxHeartbeats 400000 in
theorem is_any (s : ByteArray) (n : Int) (i : Nat) (w : World) (hi : i / 8 < s.size) (hi' : i ≤ 9223372036854775807) (hs : s.size ≤ 9223372036854775807) :
    Calls Try.prog 47 #[bstr s n, .int .i64 i] w fun e w' => e = .returned (.bool (bitAt s i)) ∧ Below w.heap.size w w' := by
  have h1 : (0 : Int) ≤ (i : Int) / 8 ∧ (i : Int) / 8 < s.size := by omega
  go_enter Try.func47, Try.ntmps47
  go_wp2
  go_ret
  exact ⟨ret_bool (is_val s i hi), by go_grown⟩

theorem refChk_bit {s : ByteArray} {n : Nat} (hn : n ≤ 1048576) (hs : s.size = (n + 7) / 8) {i : Nat} (h1 : n ≤ i) (h2 : i < 8 * s.size) (hb : bitAt s i = true) : chkB s n = 2 := by
  have : ¬ rightB s n = true := fun h => by rw [(rightB_iff hn hs).1 h i h1 h2] at hb; cases hb
  simp [chkB, this]
theorem refChk_end {s : ByteArray} {n : Nat} (hn : n ≤ 1048576) (hs : s.size = (n + 7) / 8) (h : ∀ i, n ≤ i → i < 8 * s.size → bitAt s i = false) : chkB s n = 0 := by
  simp [chkB, (rightB_iff hn hs).2 h]
set_option maxHeartbeats 400000 in
theorem refCheck_any (s : ByteArray) (n : Int) (w : World) (h0 : I64 n) (hs : s.size ≤ 9223372036854775807) :
    Calls Try.prog 43 #[bstr s n] w fun e w' => e = .returned (.int .i64 (chkB s n)) ∧ Below w.heap.size w w' := by
  obtain ⟨h0, h1⟩ := h0
  by_cases g : 0 ≤ n ∧ n ≤ 1048576 ∧ (s.size : Int) = (n + 7) / 8
  · obtain ⟨g0, g1, g2⟩ := g
    obtain ⟨n, rfl⟩ := Int.eq_ofNat_of_zero_le g0
    have g2' : s.size = (n + 7) / 8 := by omega
    have gb : ((s.size : Int) != ((n : Int) + 7) / 8) = false := by simp; omega
    have H2 := hide g2
    have H2' := hide g2'
    clear g2 g2'
    have hsz : s.size ≤ 131072 := by have := H2'.out; omega
    go_enter Try.func43, Try.ntmps43
    go_wp2_with fail
    go_loopw [3] (fun i wr => ∃ k : Nat, n ≤ k ∧ i = .int .i64 k ∧ Hid (∀ j, n ≤ j → j < k → bitAt s j = false) ∧ k ≤ 8 * s.size ∧ Below w.heap.size w wr ∧ wr.cell? ⟨w.heap.size, 0, none⟩ = some (.string s) ∧ wr.cell? ⟨w.heap.size, 1, none⟩ = some (.int .i64 n)) (fun i _ => 8 * s.size - (intOf i).toNat)
    case atStart => exact ⟨n, by omega, rfl, fun j a b => by omega, by have := H2'.out; omega, by go_grown, by simp [go_sem], by simp [go_sem]⟩
    case round =>
      obtain ⟨k, hk, rfl, hz, hk8, hbe, c0, c1⟩ := hrel
      by_cases hlt : k < 8 * s.size
      · by_cases hb : bitAt s k = true
        · go_wp2_with (go_at_call 47; refine (is_any s n k _ (by omega) (by omega) hs).mono ?_; rintro e w' ⟨rfl, hb1⟩)
          go_ret
          exact ⟨ret_int (refChk_bit (by omega) H2'.out hk hlt hb).symm, hbe.trans (hb1.mono hbe.size)⟩
        · have hb : bitAt s k = false := by simpa using hb
          go_wp2_with (go_at_call 47; refine (is_any s n k _ (by omega) (by omega) hs).mono ?_; rintro e w' ⟨rfl, hb1⟩)
          go_roundw
          case rel =>
            have hz1 := hbe.size
            refine ⟨k + 1, by omega, by go_num, fun j a b => ?_, by omega, hbe.trans (hb1.mono hz1), ?_, ?_⟩
            · rcases Nat.lt_or_ge j k with h | h
              · exact hz.out j a h
              · rw [show j = k by omega]; exact hb
            · exact cell_later hb1 c0
            · exact cell_later hb1 c1
          case measure => simp [intOf]; omega
      · go_wp2_with fail
        go_ret
        exact ⟨ret_int (refChk_end (by omega) H2'.out (fun i a b => hz.out i a (by omega))).symm, hbe⟩
  · go_enter Try.func43, Try.ntmps43
    go_wp2_with fail
    · have a : (n < 0 ∨ 1048576 < n) ∨ ((s.size : Int) != (n + 7) / 8) = true := by assumption
      go_ret
      exact ⟨ret_int (chkB_no (by rw [show n + 8 - 1 = n + 7 by omega]; rcases a with a | a <;> simp [a] <;> omega)).symm, by go_grown⟩
    · exfalso
      have a : (0 ≤ n ∧ n ≤ 1048576) ∧ ((s.size : Int) != (n + 7) / 8) = false := by assumption
      exact g ⟨a.1.1, a.1.2, by simpa using a.2⟩
    · go_ret
      exact ⟨ret_int (chkB_no (.inr (.inl (by assumption)))).symm, by go_grown⟩
    · go_ret
      exact ⟨ret_int (chkB_no (.inl (by assumption))).symm, by go_grown⟩
end Go.Proofs.Ytggffiikfelbjaa
