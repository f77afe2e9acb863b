/- The lengths that the packages give: full, none above the limit, falling, and least. No program in sight. -/
import Derived.Test.YtggffiikfelbjaaOptC
namespace Go.Proofs.Ytggffiikfelbjaa
open Go.RowKit

/-- The level beneath. -/
def pv (lw : List Nat) : Nat → List It
  | 0 => []
  | j + 1 => lvlL lw j
theorem lvl_pv (lw : List Nat) (j : Nat) : lvlL lw j = nxtL lw (pv lw j) := by cases j <;> rfl
theorem pkgs_get : ∀ (q i : Nat) (l : List It) {x y : It}, l[2 * q]? = some x → l[2 * q + 1]? = some y → ∃ p, (pkgs i l)[q]? = some p ∧ p.w = x.w + y.w := by
  intro q
  induction q with
  | zero =>
    intro i l x y hx hy
    match l, hx, hy with
    | a :: b :: r, hx, hy =>
      simp at hx hy
      subst hx hy
      exact ⟨_, by rw [pkgs]; rfl, rfl⟩
  | succ q ih =>
    intro i l x y hx hy
    match l, hx, hy with
    | a :: b :: r, hx, hy =>
      rw [show 2 * (q + 1) = 2 * q + 1 + 1 by omega, List.getElem?_cons_succ, List.getElem?_cons_succ] at hx
      rw [show 2 * (q + 1) + 1 = 2 * q + 1 + 1 + 1 by omega, List.getElem?_cons_succ, List.getElem?_cons_succ] at hy
      obtain ⟨p, h1, h2⟩ := ih (i + 2) r hx hy
      exact ⟨p, by rw [pkgs, List.getElem?_cons_succ]; exact h1, h2⟩
theorem leafIts_get {k c : Nat} {lw : List Nat} {x : Nat} (h : lw[c]? = some x) : (leafIts k lw)[c]? = some ⟨x, (k + c : Nat), 0⟩ := by
  induction lw generalizing k c with
  | nil => simp at h
  | cons w l ih =>
    cases c with
    | zero => simp at h; subst h; rfl
    | succ c =>
      rw [leafIts, List.getElem?_cons_succ, ih (by simpa using h)]
      congr 2; omega
theorem bump_lfs (c : List Nat) (l : List It) : bump c l = bump c (lfs l) := by
  induction l generalizing c with
  | nil => rfl
  | cons x l ih =>
    rw [lfs_cons]
    show bump (bump1 c x) l = _
    by_cases h : 0 ≤ x.leaf
    · rw [if_pos h, ih]; rfl
    · rw [if_neg h, ih]; unfold bump1; rw [if_neg h]
theorem bump_leaves (i : Nat) : ∀ (l : List Nat) (k : Nat) (c : List Nat), k + l.length ≤ c.length → (bump c (leafIts k l)).getD i 0 = c.getD i 0 + (if k ≤ i ∧ i < k + l.length then 1 else 0) := by
  intro l
  induction l with
  | nil => intro k c _; show c.getD i 0 = _; rw [if_neg (by rw [List.length_nil]; omega)]; omega
  | cons w l ih =>
    intro k c h
    rw [List.length_cons] at h
    show (bump (bump1 c ⟨w, k, 0⟩) (leafIts (k + 1) l)).getD i 0 = _
    rw [ih (k + 1) _ (by rw [bump1_length]; omega)]
    have hb : bump1 c ⟨w, k, 0⟩ = c.set k (c.getD k 0 + 1) := by
      unfold bump1
      exact if_pos (by show (0 : Int) ≤ (k : Int); omega)
    rw [hb, List.length_cons]
    by_cases e : i = k
    · subst e
      rw [List.getD_eq_getElem?_getD, List.getElem?_set_self (by omega), if_neg (by omega), if_pos (by omega)]; rfl
    · rw [List.getD_eq_getElem?_getD, List.getElem?_set_ne (by omega), ← List.getD_eq_getElem?_getD]
      congr 1
      by_cases e2 : k + 1 ≤ i ∧ i < k + 1 + l.length
      · rw [if_pos e2, if_pos (by omega)]
      · rw [if_neg e2, if_neg (by omega)]

section
variable (lw : List Nat) (L : Nat)
/-- How many are chosen of level L-1-k; how many of them are leaves. -/
def Mk (k : Nat) : Nat := (stC lw.length ((lvls lw L).reverse.take k)).1
def Ck (k : Nat) : Nat := if k < L then lfC lw (pv lw (L - 1 - k)) (Mk lw L k) else 0
end
section
variable {lw : List Nat} {L : Nat}
theorem st_succ {k : Nat} (h : k < L) : stC lw.length ((lvls lw L).reverse.take (k + 1)) = stepC (stC lw.length ((lvls lw L).reverse.take k)) (lvlL lw (L - 1 - k)) := by
  rw [List.take_add_one, lvls_rev h]
  show stC _ (_ ++ [_]) = _
  rw [stC_snoc]
theorem Mk_succ {k : Nat} (h : k < L) : Mk lw L (k + 1) = 2 * pkN ((lvlL lw (L - 1 - k)).take (Mk lw L k)) := by
  unfold Mk
  rw [st_succ h]; rfl
theorem Mk_fits (h2 : lw.length ≤ 2 ^ L) {k : Nat} (h : k < L) : Mk lw L k ≤ (lvlL lw (L - 1 - k)).length := st_fits h2 (lvls_rev h)
theorem Ck_pk (h2 : lw.length ≤ 2 ^ L) {k : Nat} (h : k < L) : Ck lw L k + pkN ((lvlL lw (L - 1 - k)).take (Mk lw L k)) = Mk lw L k := by
  have := first_len lw (pv lw (L - 1 - k)) (m := Mk lw L k) (by rw [← lvl_pv]; exact Mk_fits h2 h)
  unfold Ck
  rw [if_pos h, lvl_pv]; exact this
theorem Ck_le (k : Nat) : Ck lw L k ≤ lw.length := by
  unfold Ck
  split
  · exact (first_lfs _ _ _).2
  · omega
/-- Fewer leaves from level to level. -/
theorem Ck_fall (hs : lw.Pairwise fun a b => a ≤ b) (k : Nat) : Ck lw L (k + 1) ≤ Ck lw L k := by
  by_cases hk : k + 1 < L
  · refine Nat.le_of_not_lt fun hlt => ?_
    obtain ⟨j, hj⟩ : ∃ j, L - 1 - k = j + 1 := ⟨L - 1 - (k + 1), by omega⟩
    have hj2 : L - 1 - (k + 1) = j := by omega
    obtain ⟨c, hc⟩ : ∃ c, c = Ck lw L k := ⟨_, rfl⟩
    rw [← hc] at hlt
    have hC1 : Ck lw L (k + 1) = lfC lw (pv lw j) (Mk lw L (k + 1)) := by unfold Ck; rw [if_pos hk, hj2]
    have hC0 : c = lfC lw (lvlL lw j) (Mk lw L k) := by rw [hc]; unfold Ck; rw [if_pos (by omega), hj]; rfl
    have hM : Mk lw L (k + 1) = 2 * pkN ((nxtL lw (lvlL lw j)).take (Mk lw L k)) := by rw [Mk_succ (by omega), hj]; rfl
    obtain ⟨p, hp⟩ : ∃ p, p = pkN ((nxtL lw (lvlL lw j)).take (Mk lw L k)) := ⟨_, rfl⟩
    rw [← hp] at hM
    have hcl : c < lw.length := by have := Ck_le (lw := lw) (L := L) (k + 1); omega
    obtain ⟨x, hx⟩ : ∃ x, lw[c]? = some x := ⟨lw[c], by simp [hcl]⟩
    -- the leaf c is among the first 2p of the level beneath
    have hmem : (⟨x, (c : Nat), 0⟩ : It) ∈ (lvlL lw j).take (2 * p) := by
      obtain ⟨a, _⟩ := first_lfs lw (pv lw j) (Mk lw L (k + 1))
      rw [← lvl_pv, hM, ← hM, ← hC1] at a
      have hg : (leafIts 0 (lw.take (Ck lw L (k + 1))))[c]? = some ⟨x, (0 + c : Nat), 0⟩ := leafIts_get (by rw [List.getElem?_take_of_lt hlt]; exact hx)
      rw [← a, Nat.zero_add] at hg
      have := List.mem_of_getElem? hg
      rw [hM] at this
      exact (List.mem_filter.1 this).1
    obtain ⟨pos, hpos⟩ := List.mem_iff_getElem?.1 hmem
    have hpl : pos < 2 * p := by
      have := (List.getElem?_eq_some_iff.1 hpos).1
      rw [List.length_take] at this; omega
    rw [List.getElem?_take_of_lt hpl] at hpos
    have hp2 := (first_pks lw (lvlL lw j) (Mk lw L k)).2
    rw [← hp] at hp2
    obtain ⟨q, hq⟩ : ∃ q, q = pos / 2 := ⟨_, rfl⟩
    have hl0 : 2 * q < (lvlL lw j).length := by omega
    have hl1 : 2 * q + 1 < (lvlL lw j).length := by omega
    obtain ⟨pk, hpk, hpw⟩ := pkgs_get q 0 (lvlL lw j) (x := (lvlL lw j)[2 * q]) (y := (lvlL lw j)[2 * q + 1]) (by simp [hl0]) (by simp [hl1])
    have hge : x ≤ pk.w := by
      rcases (show pos = 2 * q ∨ pos = 2 * q + 1 by omega) with e | e
      · have : (lvlL lw j)[2 * q] = ⟨x, (c : Nat), 0⟩ := by
          rw [e, List.getElem?_eq_getElem hl0] at hpos; simpa using hpos
        rw [hpw, this]
        show x ≤ x + _
        omega
      · have : (lvlL lw j)[2 * q + 1] = ⟨x, (c : Nat), 0⟩ := by
          rw [e, List.getElem?_eq_getElem hl1] at hpos; simpa using hpos
        rw [hpw, this]
        show x ≤ _ + x
        omega
    have := mrg_front (leafIts_sorted (k := 0) hs) (pkgs_sorted _ 0 (lvlL lw j) (Nat.le_refl _) (lvlL_sorted hs j)) (fun y hy => by have := leafIts_leaf hy; omega) (fun y hy => by have := pkgs_leaf _ _ _ (Nat.le_refl _) hy; omega)
      (Mk lw L k) q ⟨x, (0 + c : Nat), 0⟩ pk (by
        have e : (lfs ((mrg (leafIts 0 lw) (pkgs 0 (lvlL lw j))).take (Mk lw L k))).length = c := by rw [hC0]; rfl
        rw [e]; exact leafIts_get hx) (by
        have e : pkN ((mrg (leafIts 0 lw) (pkgs 0 (lvlL lw j))).take (Mk lw L k)) = p := by rw [hp]; rfl
        rw [e]; omega) hpk
    have : pk.w < x := this
    omega
  · unfold Ck
    rw [if_neg hk]; omega
/-- How often leaf i is met. -/
theorem cnt_get {i : Nat} : ∀ k, k ≤ L → (stC lw.length ((lvls lw L).reverse.take k)).2.getD i 0 = SS (fun k => if i < Ck lw L k then 1 else 0) k := by
  intro k
  induction k with
  | zero =>
    intro _
    show (List.replicate lw.length 0).getD i 0 = 0
    rw [List.getD_eq_getElem?_getD, List.getElem?_replicate]; split <;> rfl
  | succ k ih =>
    intro hk
    rw [st_succ (by omega), SS]
    show (bump _ ((lvlL lw (L - 1 - k)).take (Mk lw L k))).getD i 0 = _
    obtain ⟨a, b⟩ := first_lfs lw (pv lw (L - 1 - k)) (Mk lw L k)
    rw [bump_lfs, lvl_pv, a, bump_leaves i _ 0 _ (by rw [List.length_take, stC_length]; omega), ih (by omega)]
    congr 1
    have hC : Ck lw L k = lfC lw (pv lw (L - 1 - k)) (Mk lw L k) := by unfold Ck; rw [if_pos (by omega)]
    have hl : (lw.take (lfC lw (pv lw (L - 1 - k)) (Mk lw L k))).length = Ck lw L k := by rw [List.length_take, hC]; omega
    rw [hl]
    by_cases h : i < Ck lw L k
    · rw [if_pos h, if_pos (by omega)]
    · rw [if_neg h, if_neg (by omega)]
theorem cntL_get (i : Nat) : (cntL lw L).getD i 0 = SS (fun k => if i < Ck lw L k then 1 else 0) L := by
  have := cnt_get (lw := lw) (L := L) (i := i) L (Nat.le_refl _)
  rwa [List.take_of_length_le (by rw [List.length_reverse, lvls_length]; exact Nat.le_refl _)] at this
/-- A leaf is met in the first levels, just as many as its number tells. -/
theorem cnt_lt (hs : lw.Pairwise fun a b => a ≤ b) {i k : Nat} (hk : k < L) : i < Ck lw L k ↔ k < (cntL lw L).getD i 0 := by
  rw [cntL_get]
  exact SS_count (fun k => i < Ck lw L k) L (fun k h => Nat.lt_of_lt_of_le h (Ck_fall hs k)) k hk
theorem cnt_limit (i : Nat) : (cntL lw L).getD i 0 ≤ L := by
  rw [cntL_get]
  have : SS (fun k => if i < Ck lw L k then 1 else 0) L ≤ SS (fun _ => 1) L := SS_le fun k _ => by split <;> omega
  rw [SS_const] at this; omega
theorem cnt_fall {i j : Nat} (h : i ≤ j) : (cntL lw L).getD j 0 ≤ (cntL lw L).getD i 0 := by
  rw [cntL_get, cntL_get]
  exact SS_le fun k _ => by
    by_cases e : j < Ck lw L k
    · rw [if_pos e, if_pos (by omega)]; exact Nat.le_refl _
    · rw [if_neg e]; omega
end
#print axioms cnt_lt
end Go.Proofs.Ytggffiikfelbjaa
