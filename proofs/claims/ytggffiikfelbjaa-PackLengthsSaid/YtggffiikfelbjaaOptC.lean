/- The lengths that the packages give: how often each leaf is met, level by level. No program in sight. -/
import Derived.Test.YtggffiikfelbjaaOptB
namespace Go.Proofs.Ytggffiikfelbjaa
open Go.RowKit

/-- The leaves among some items. -/
def lfs (l : List It) : List It := l.filter fun x => decide (0 ≤ x.leaf)
def pks (l : List It) : List It := l.filter fun x => decide (x.leaf < 0)
theorem pkN_pks (l : List It) : pkN l = (pks l).length := rfl
theorem lfs_cons (x : It) (l : List It) : lfs (x :: l) = if 0 ≤ x.leaf then x :: lfs l else lfs l := by
  unfold lfs
  by_cases h : 0 ≤ x.leaf
  · rw [if_pos h, List.filter_cons, if_pos (decide_eq_true h)]
  · rw [if_neg h, List.filter_cons, if_neg (by rw [decide_eq_false h]; decide)]
theorem pks_cons (x : It) (l : List It) : pks (x :: l) = if 0 ≤ x.leaf then pks l else x :: pks l := by
  unfold pks
  by_cases h : 0 ≤ x.leaf
  · rw [if_pos h, List.filter_cons, if_neg (by rw [decide_eq_false (by omega)]; decide)]
  · rw [if_neg h, List.filter_cons, if_pos (decide_eq_true (by omega))]
theorem lfs_pks_len (l : List It) : (lfs l).length + pkN l = l.length := by
  rw [pkN_pks]
  induction l with
  | nil => rfl
  | cons x l ih => rw [lfs_cons, pks_cons]; split <;> simp <;> omega
theorem lfs_pks_sum (l : List It) : sumW l = sumW (lfs l) + sumW (pks l) := by
  induction l with
  | nil => rfl
  | cons x l ih => rw [lfs_cons, pks_cons, sumW_cons, ih]; split <;> rw [sumW_cons] <;> omega
theorem mrg_lfs {ls ps : List It} (h1 : ∀ x ∈ ls, 0 ≤ x.leaf) (h2 : ∀ x ∈ ps, x.leaf < 0) : lfs (mrg ls ps) = ls ∧ pks (mrg ls ps) = ps := by
  induction ls generalizing ps with
  | nil =>
    rw [mrg]
    refine ⟨List.filter_eq_nil_iff.2 fun x hx => by have := h2 x hx; simp; omega, List.filter_eq_self.2 fun x hx => by simpa using h2 x hx⟩
  | cons l ls ih =>
    have hl := h1 l (by simp)
    induction ps with
    | nil =>
      rw [mrg_nil]
      refine ⟨List.filter_eq_self.2 fun x hx => by simpa using h1 x hx, List.filter_eq_nil_iff.2 fun x hx => by have := h1 x hx; simp; omega⟩
    | cons p ps ih2 =>
      have hp := h2 p (by simp)
      by_cases h : l.w ≤ p.w
      · rw [mrg_le h, lfs_cons, pks_cons, if_pos hl, if_pos hl]
        obtain ⟨a, b⟩ := ih (fun x hx => h1 x (List.mem_cons_of_mem _ hx)) h2
        exact ⟨by rw [a], b⟩
      · rw [mrg_gt h, lfs_cons, pks_cons, if_neg (by omega), if_neg (by omega)]
        obtain ⟨a, b⟩ := ih2 (fun x hx => h2 x (List.mem_cons_of_mem _ hx))
        exact ⟨a, by rw [b]⟩
theorem take_filter {p : It → Bool} (l : List It) (m : Nat) : (l.take m).filter p = (l.filter p).take ((l.take m).filter p).length := by
  have h : l.filter p = (l.take m).filter p ++ (l.drop m).filter p := by rw [← List.filter_append, List.take_append_drop]
  rw [h, List.take_left]
/-- How many leaves among the first m of a level. -/
def lfC (lw : List Nat) (lv : List It) (m : Nat) : Nat := (lfs ((nxtL lw lv).take m)).length
theorem nxt_lfs (lw : List Nat) (lv : List It) : lfs (nxtL lw lv) = leafIts 0 lw ∧ pks (nxtL lw lv) = pkgs 0 lv :=
  mrg_lfs (fun x hx => by have := leafIts_leaf hx; omega) (fun x hx => by have := pkgs_leaf _ _ _ (Nat.le_refl _) hx; omega)
theorem leafIts_take (k c : Nat) (lw : List Nat) : (leafIts k lw).take c = leafIts k (lw.take c) := by
  induction lw generalizing k c with
  | nil => simp [leafIts]
  | cons w l ih =>
    cases c with
    | zero => rfl
    | succ c => rw [leafIts, List.take_succ_cons, ih, List.take_succ_cons, leafIts]
theorem first_lfs (lw : List Nat) (lv : List It) (m : Nat) : lfs ((nxtL lw lv).take m) = leafIts 0 (lw.take (lfC lw lv m)) ∧ lfC lw lv m ≤ lw.length := by
  have h := take_filter (p := fun x => decide (0 ≤ x.leaf)) (nxtL lw lv) m
  have h1 : lfs ((nxtL lw lv).take m) = (lfs (nxtL lw lv)).take (lfC lw lv m) := h
  rw [(nxt_lfs lw lv).1, leafIts_take] at h1
  refine ⟨h1, ?_⟩
  have h2 := List.length_filter_le (fun x : It => decide (0 ≤ x.leaf)) ((nxtL lw lv).take m)
  have h3 : (lfs ((nxtL lw lv).take m)).length ≤ (lfs (nxtL lw lv)).length := (List.Sublist.filter _ (List.take_sublist m (nxtL lw lv))).length_le
  rw [(nxt_lfs lw lv).1, leafIts_length] at h3
  exact h3
theorem first_pks (lw : List Nat) (lv : List It) (m : Nat) : pks ((nxtL lw lv).take m) = (pkgs 0 lv).take (pkN ((nxtL lw lv).take m)) ∧ pkN ((nxtL lw lv).take m) ≤ lv.length / 2 := by
  have h := take_filter (p := fun x => decide (x.leaf < 0)) (nxtL lw lv) m
  have h1 : pks ((nxtL lw lv).take m) = (pks (nxtL lw lv)).take (pkN ((nxtL lw lv).take m)) := h
  rw [(nxt_lfs lw lv).2] at h1
  refine ⟨h1, ?_⟩
  have := pkN_take (nxtL lw lv) m
  rwa [pkN_nxt] at this
theorem first_sum (lw : List Nat) (lv : List It) (m : Nat) : sumW ((nxtL lw lv).take m) = (lw.take (lfC lw lv m)).sum + sumW (lv.take (2 * pkN ((nxtL lw lv).take m))) := by
  obtain ⟨a, _⟩ := first_lfs lw lv m
  obtain ⟨b, b2⟩ := first_pks lw lv m
  rw [lfs_pks_sum, a, b, pkgs_sum _ _ _ (by omega)]
  congr 1
  have := leafIts_sum 0 (lw.take (lfC lw lv m)) (lw.take (lfC lw lv m)).length
  rwa [List.take_of_length_le (by rw [leafIts_length]; exact Nat.le_refl _), List.take_of_length_le (Nat.le_refl _)] at this
theorem first_len (lw : List Nat) (lv : List It) {m : Nat} (h : m ≤ (nxtL lw lv).length) : lfC lw lv m + pkN ((nxtL lw lv).take m) = m := by
  have := lfs_pks_len ((nxtL lw lv).take m)
  rw [List.length_take] at this
  unfold lfC; omega
/-- The next leaf weighs more than all packages that are ahead of it. -/
theorem mrg_front {ls ps : List It} (hs : SortedW ls) (hp : SortedW ps) (h1 : ∀ x ∈ ls, 0 ≤ x.leaf) (h2 : ∀ x ∈ ps, x.leaf < 0) : ∀ (m q : Nat) (l p : It), ls[(lfs ((mrg ls ps).take m)).length]? = some l → q < pkN ((mrg ls ps).take m) → ps[q]? = some p → p.w < l.w := by
  intro m
  induction m generalizing ls ps with
  | zero => intro q l p _ hq _; simp [pkN] at hq
  | succ m ih =>
    intro q l p hl hq hpq
    cases ls with
    | nil => simp at hl
    | cons l0 ls =>
      cases ps with
      | nil => simp at hpq
      | cons p0 ps =>
        have hs' := List.pairwise_cons.1 hs
        have hp' := List.pairwise_cons.1 hp
        have hl0 := h1 l0 (by simp)
        have hp0 := h2 p0 (by simp)
        by_cases h : l0.w ≤ p0.w
        · rw [mrg_le h, List.take_succ_cons] at hl hq
          rw [lfs_cons, if_pos hl0, List.length_cons, List.getElem?_cons_succ] at hl
          rw [pkN_pks, pks_cons, if_pos hl0] at hq
          exact ih hs'.2 hp (fun x hx => h1 x (List.mem_cons_of_mem _ hx)) h2 q l p hl hq hpq
        · rw [mrg_gt h, List.take_succ_cons] at hl hq
          rw [lfs_cons, if_neg (by omega)] at hl
          rw [pkN_pks, pks_cons, if_neg (by omega), List.length_cons] at hq
          cases q with
          | zero =>
            simp at hpq
            subst hpq
            have hmem := List.mem_of_getElem? hl
            rcases List.mem_cons.1 hmem with rfl | hm
            · omega
            · have := hs'.1 l hm; omega
          | succ q =>
            rw [List.getElem?_cons_succ] at hpq
            exact ih hs hp'.2 h1 (fun x hx => h2 x (List.mem_cons_of_mem _ hx)) q l p hl (by rw [pkN_pks]; omega) hpq
#print axioms mrg_front
end Go.Proofs.Ytggffiikfelbjaa
