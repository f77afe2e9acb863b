/- The lengths that the packages give are full, and cost least. No program in sight. -/
import Derived.Test.YtggffiikfelbjaaOptD
namespace Go.Proofs.Ytggffiikfelbjaa
open Go.RowKit

section
variable {lw : List Nat} {L : Nat}
theorem Mk_zero (lw : List Nat) (L : Nat) : Mk lw L 0 = 2 * lw.length - 2 := rfl
/-- All the width. -/
theorem width (h2 : lw.length ≤ 2 ^ L) (hL : 1 ≤ L) : Mk lw L 0 * 2 ^ (L - 1) = SS (fun k => Ck lw L k * 2 ^ (L - 1 - k)) L := by
  have step : ∀ K, K < L → Mk lw L 0 * 2 ^ (L - 1) = SS (fun k => Ck lw L k * 2 ^ (L - 1 - k)) K + Mk lw L K * 2 ^ (L - 1 - K) := by
    intro K
    induction K with
    | zero => intro _; simp [SS]
    | succ K ih =>
      intro hK
      rw [ih (by omega), SS]
      have h3 := Ck_pk h2 (show K < L by omega)
      have h4 := Mk_succ (lw := lw) (show K < L by omega)
      have e : 2 ^ (L - 1 - K) = 2 * 2 ^ (L - 1 - (K + 1)) := by rw [show L - 1 - K = (L - 1 - (K + 1)) + 1 by omega, Nat.pow_succ, Nat.mul_comm]
      rw [h4, ← h3, Nat.add_mul, e]
      have : 2 * pkN ((lvlL lw (L - 1 - K)).take (Ck lw L K + pkN ((lvlL lw (L - 1 - K)).take (Mk lw L K)))) * 2 ^ (L - 1 - (K + 1)) = pkN ((lvlL lw (L - 1 - K)).take (Mk lw L K)) * (2 * 2 ^ (L - 1 - (K + 1))) := by
        rw [h3, Nat.mul_comm 2, Nat.mul_assoc]
      omega
  have h5 := step (L - 1) (by omega)
  obtain ⟨K, rfl⟩ : ∃ K, L = K + 1 := ⟨L - 1, by omega⟩
  rw [SS]
  simp only [Nat.add_sub_cancel] at h5 ⊢
  have h6 := Ck_pk h2 (show K < K + 1 by omega)
  have h7 : pkN ((lvlL lw (K + 1 - 1 - K)).take (Mk lw (K + 1) K)) = 0 := by
    have := (first_pks lw [] (Mk lw (K + 1) K)).2
    rw [show K + 1 - 1 - K = 0 by omega]
    show pkN ((nxtL lw []).take _) = 0
    simp at this; exact this
  rw [h7, Nat.add_zero] at h6
  rw [h5, h6]
/-- All the weight. -/
theorem weight (h2 : lw.length ≤ 2 ^ L) (hL : 1 ≤ L) : sumW ((lvlL lw (L - 1)).take (2 * lw.length - 2)) = SS (fun k => (lw.take (Ck lw L k)).sum) L := by
  have step : ∀ K, K < L → sumW ((lvlL lw (L - 1)).take (2 * lw.length - 2)) = SS (fun k => (lw.take (Ck lw L k)).sum) K + sumW ((lvlL lw (L - 1 - K)).take (Mk lw L K)) := by
    intro K
    induction K with
    | zero => intro _; rw [Mk_zero]; simp [SS]
    | succ K ih =>
      intro hK
      rw [ih (by omega), SS]
      have e : lvlL lw (L - 1 - K) = nxtL lw (lvlL lw (L - 1 - (K + 1))) := by rw [show L - 1 - K = (L - 1 - (K + 1)) + 1 by omega]; rfl
      have h4 := Mk_succ (lw := lw) (show K < L by omega)
      have h5 := first_sum lw (lvlL lw (L - 1 - (K + 1))) (Mk lw L K)
      have hC : Ck lw L K = lfC lw (lvlL lw (L - 1 - (K + 1))) (Mk lw L K) := by
        unfold Ck; rw [if_pos (by omega), show L - 1 - K = (L - 1 - (K + 1)) + 1 by omega]; rfl
      rw [h4, e, h5, hC]; omega
  have h5 := step (L - 1) (by omega)
  obtain ⟨K, rfl⟩ : ∃ K, L = K + 1 := ⟨L - 1, by omega⟩
  rw [SS]
  simp only [Nat.add_sub_cancel] at h5 ⊢
  rw [h5]
  congr 1
  have hC : Ck lw (K + 1) K = lfC lw [] (Mk lw (K + 1) K) := by
    unfold Ck; rw [if_pos (by omega), show K + 1 - 1 - K = 0 by omega]; rfl
  rw [show K - K = 0 by omega, hC]
  show sumW ((nxtL lw []).take _) = _
  rw [first_sum]; simp [sumW]
/-- What the lengths take of the room. -/
theorem kraft (hs : lw.Pairwise fun a b => a ≤ b) (h2 : lw.length ≤ 2 ^ L) (hL : 1 ≤ L) (hn : 2 ≤ lw.length) : SS (fun i => 2 ^ (L - (cntL lw L).getD i 0)) lw.length = 2 ^ L := by
  have h := width h2 hL
  have e1 : SS (fun k => Ck lw L k * 2 ^ (L - 1 - k)) L = SS (fun i => SS (fun k => if i < Ck lw L k then 2 ^ (L - 1 - k) else 0) L) lw.length := by
    rw [SS_swap]
    exact SS_congr fun k _ => by rw [SS_cut (Ck_le k), SS_const]
  have e2 : SS (fun i => SS (fun k => if i < Ck lw L k then 2 ^ (L - 1 - k) else 0) L) lw.length = SS (fun i => SS (fun k => if k < (cntL lw L).getD i 0 then 2 ^ (L - 1 - k) else 0) L) lw.length :=
    SS_congr fun i _ => SS_congr fun k hk => by
      by_cases e : i < Ck lw L k
      · rw [if_pos e, if_pos ((cnt_lt hs hk).1 e)]
      · rw [if_neg e, if_neg (fun h => e ((cnt_lt hs hk).2 h))]
  have e3 : SS (fun i => SS (fun k => if k < (cntL lw L).getD i 0 then 2 ^ (L - 1 - k) else 0) L) lw.length + SS (fun i => 2 ^ (L - (cntL lw L).getD i 0)) lw.length = lw.length * 2 ^ L := by
    rw [← SS_add, ← SS_const]
    exact SS_congr fun i _ => SS_pow L _ (cnt_limit i)
  rw [e1, e2, Mk_zero] at h
  have e4 : (2 * lw.length - 2) * 2 ^ (L - 1) = lw.length * 2 ^ L - 2 ^ L := by
    obtain ⟨m, hm⟩ : ∃ m, lw.length = m + 1 := ⟨lw.length - 1, by omega⟩
    obtain ⟨K, rfl⟩ : ∃ K, L = K + 1 := ⟨L - 1, by omega⟩
    rw [hm, Nat.add_sub_cancel, Nat.pow_succ, show 2 * (m + 1) - 2 = m * 2 by omega, Nat.mul_assoc, Nat.mul_comm 2 (2 ^ K), Nat.add_mul]; omega
  have e5 : 2 ^ L ≤ lw.length * 2 ^ L := Nat.le_mul_of_pos_left _ (by omega)
  omega
/-- Each leaf has a length. -/
theorem cnt_pos (hs : lw.Pairwise fun a b => a ≤ b) (h2 : lw.length ≤ 2 ^ L) (hL : 1 ≤ L) (hn : 2 ≤ lw.length) {i : Nat} (hi : i < lw.length) : 1 ≤ (cntL lw L).getD i 0 := by
  refine Nat.pos_of_ne_zero fun h0 => ?_
  have h := kraft hs h2 hL hn
  obtain ⟨j, hj, hne⟩ : ∃ j, j < lw.length ∧ i ≠ j := by
    by_cases e : i = 0
    · exact ⟨1, by omega, by omega⟩
    · exact ⟨0, by omega, e⟩
  have h3 := SS_two (f := fun i => 2 ^ (L - (cntL lw L).getD i 0)) hi hj hne
  rw [h0, Nat.sub_zero] at h3
  have := Nat.two_pow_pos (L - (cntL lw L).getD j 0)
  omega
/-- What the lengths cost. -/
theorem cost_eq (h2 : lw.length ≤ 2 ^ L) (hL : 1 ≤ L) : SS (fun i => lw.getD i 0 * (cntL lw L).getD i 0) lw.length = sumW ((lvlL lw (L - 1)).take (2 * lw.length - 2)) := by
  rw [weight h2 hL]
  have e1 : SS (fun i => lw.getD i 0 * (cntL lw L).getD i 0) lw.length = SS (fun i => SS (fun k => if i < Ck lw L k then lw.getD i 0 else 0) L) lw.length :=
    SS_congr fun i _ => by
      rw [cntL_get, ← SS_mul]
      exact SS_congr fun k _ => by split <;> simp
  rw [e1, SS_swap]
  exact SS_congr fun k _ => by rw [SS_cut (Ck_le k), SS_take lw _ (Ck_le k)]
/-- No others that have room cost less. -/
theorem cnt_least (hs : lw.Pairwise fun a b => a ≤ b) (h2 : lw.length ≤ 2 ^ L) (hL : 1 ≤ L) (hn : 2 ≤ lw.length) (l : Nat → Nat) (hl : ∀ i, i < lw.length → l i ≤ L) (hroom : SS (fun i => 2 ^ (L - l i)) lw.length ≤ 2 ^ L) :
    SS (fun i => lw.getD i 0 * (cntL lw L).getD i 0) lw.length ≤ SS (fun i => lw.getD i 0 * l i) lw.length := by
  rw [cost_eq h2 hL]
  -- the coins of level t (from the lowest): of those whose length is beyond L-1-t
  have hc : ∀ t, SS (fun i => if L - 1 - t < l i then 1 else 0) lw.length ≤ lw.length := fun t => by
    have : SS (fun i => if L - 1 - t < l i then 1 else 0) lw.length ≤ SS (fun _ => 1) lw.length := SS_le fun i _ => by split <;> omega
    rw [SS_const] at this; omega
  have hw : (2 * lw.length - 2) * 2 ^ (L - 1) ≤ upS (fun t => SS (fun i => if L - 1 - t < l i then 1 else 0) lw.length * 2 ^ t) (L - 1) := by
    rw [upS_eq, show L - 1 + 1 = L by omega]
    have e1 : SS (fun t => SS (fun i => if L - 1 - t < l i then 1 else 0) lw.length * 2 ^ t) L = SS (fun i => SS (fun t => if L - 1 - t < l i then 2 ^ t else 0) L) lw.length := by
      rw [SS_swap]
      exact SS_congr fun t _ => by
        rw [Nat.mul_comm, ← SS_mul]
        exact SS_congr fun i _ => by split <;> simp
    have e2 : ∀ i, SS (fun t => if L - 1 - t < l i then 2 ^ t else 0) L = SS (fun k => if k < l i then 2 ^ (L - 1 - k) else 0) L := fun i => by
      rw [← SS_rev]
      exact SS_congr fun k hk => by rw [show L - 1 - (L - 1 - k) = k by omega]
    have e3 : SS (fun i => SS (fun t => if L - 1 - t < l i then 2 ^ t else 0) L) lw.length + SS (fun i => 2 ^ (L - l i)) lw.length = lw.length * 2 ^ L := by
      rw [← SS_add, ← SS_const]
      exact SS_congr fun i hi => by rw [e2]; exact SS_pow L _ (hl i hi)
    rw [e1]
    have e4 : (2 * lw.length - 2) * 2 ^ (L - 1) = lw.length * 2 ^ L - 2 ^ L := by
      obtain ⟨m, hm⟩ : ∃ m, lw.length = m + 1 := ⟨lw.length - 1, by omega⟩
      obtain ⟨K, rfl⟩ : ∃ K, L = K + 1 := ⟨L - 1, by omega⟩
      rw [hm, Nat.add_sub_cancel, Nat.pow_succ, show 2 * (m + 1) - 2 = m * 2 by omega, Nat.mul_assoc, Nat.mul_comm 2 (2 ^ K), Nat.add_mul]; omega
    omega
  have h := (coins_least hs (L - 1) (2 * lw.length - 2) _ hc hw).2
  refine Nat.le_trans h ?_
  rw [upS_eq, show L - 1 + 1 = L by omega]
  have rise : ∀ i j, i ≤ j → j < lw.length → lw.getD i 0 ≤ lw.getD j 0 := by
    intro i j hij hj
    rw [List.getD_eq_getElem?_getD, List.getD_eq_getElem?_getD, List.getElem?_eq_getElem hj, List.getElem?_eq_getElem (by omega : i < lw.length)]
    rcases Nat.lt_or_ge i j with e | e
    · exact List.pairwise_iff_getElem.1 hs i j (by omega) hj e
    · obtain rfl : i = j := by omega
      exact Nat.le_refl _
  have part : ∀ t, (lw.take (SS (fun i => if L - 1 - t < l i then 1 else 0) lw.length)).sum ≤ SS (fun i => if L - 1 - t < l i then lw.getD i 0 else 0) lw.length := fun t => by
    rw [← SS_take lw _ (hc t)]
    exact (SS_part (f := fun i => lw.getD i 0) (fun i => L - 1 - t < l i) lw.length rise).2
  refine Nat.le_trans (SS_le fun t _ => part t) ?_
  rw [← SS_swap]
  refine SS_le fun i hi => ?_
  have e : SS (fun t => if L - 1 - t < l i then lw.getD i 0 else 0) L = SS (fun k => if k < l i then lw.getD i 0 else 0) L := by
    rw [← SS_rev]
    exact SS_congr fun k hk => by rw [show L - 1 - (L - 1 - k) = k by omega]
  rw [e, SS_cut (hl i hi), SS_const, Nat.mul_comm]
  exact Nat.le_refl _
end
#print axioms cnt_least
end Go.Proofs.Ytggffiikfelbjaa
