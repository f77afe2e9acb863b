/- The lengths, plainly: levels, how often each leaf is met, and where that is laid. No program in sight. -/
import Derived.Test.YtggffiikfelbjaaCount
import Derived.Test.YtggffiikfelbjaaCost
namespace Go.Proofs.Ytggffiikfelbjaa
open Go.RowKit

def lvls (lw : List Nat) (L : Nat) : List (List It) := (List.range L).map (lvlL lw)
theorem lvls_length (lw : List Nat) (L : Nat) : (lvls lw L).length = L := by simp [lvls]
theorem lvls_get {lw : List Nat} {L j : Nat} (h : j < L) : (lvls lw L)[j]? = some (lvlL lw j) := by simp [lvls, h]
theorem lvls_succ (lw : List Nat) (L : Nat) : lvls lw (L + 1) = lvls lw L ++ [lvlL lw L] := by simp [lvls, List.range_succ]
theorem lvls_rev {lw : List Nat} {L k : Nat} (h : k < L) : (lvls lw L).reverse[k]? = some (lvlL lw (L - 1 - k)) := by
  rw [List.getElem?_reverse (by rw [lvls_length]; exact h), lvls_length]
  exact lvls_get (by omega)
theorem leafIts_leaf {x : It} {k : Nat} {l : List Nat} (h : x ∈ leafIts k l) : (k : Int) ≤ x.leaf ∧ x.leaf < (k : Int) + l.length := by
  induction l generalizing k with
  | nil => simp [leafIts] at h
  | cons w l ih =>
    rw [leafIts] at h
    rcases List.mem_cons.1 h with rfl | h
    · simp; omega
    · have := ih h; simp at this ⊢; omega
theorem pkgs_leaf {x : It} : ∀ (n i : Nat) (l : List It), l.length ≤ n → x ∈ pkgs i l → x.leaf = -1 := by
  intro n
  induction n with
  | zero => intro i l h hx; have : l = [] := List.eq_nil_of_length_eq_zero (by omega); subst this; simp [pkgs] at hx
  | succ n ih =>
    intro i l h hx
    match l, h, hx with
    | [], _, hx => simp [pkgs] at hx
    | [_], _, hx => simp [pkgs] at hx
    | a :: b :: r, h, hx =>
      rw [pkgs] at hx
      rcases List.mem_cons.1 hx with rfl | hx
      · rfl
      · exact ih _ r (by simp at h; omega) hx
theorem nxtL_leaf {lw : List Nat} {lv : List It} {x : It} (h : x ∈ nxtL lw lv) : x.leaf < (lw.length : Int) := by
  rcases mrg_mem h with h | h
  · have := leafIts_leaf h; omega
  · have := pkgs_leaf _ _ _ (Nat.le_refl _) h; omega
theorem lvlL_leaf {lw : List Nat} {j : Nat} {x : It} (h : x ∈ lvlL lw j) : x.leaf < (lw.length : Int) := by
  cases j with
  | zero => exact nxtL_leaf h
  | succ j => exact nxtL_leaf h
theorem pkN_append (a b : List It) : pkN (a ++ b) = pkN a + pkN b := by unfold pkN; rw [List.filter_append, List.length_append]
theorem pkN_cons (x : It) (l : List It) : pkN (x :: l) = (if x.leaf < 0 then 1 else 0) + pkN l := by
  have := pkN_append [x] l
  rw [List.singleton_append] at this
  rw [this]
  congr 1
  unfold pkN
  by_cases h : x.leaf < 0
  · rw [if_pos h, List.filter_cons, if_pos (decide_eq_true h)]; rfl
  · rw [if_neg h, List.filter_cons, if_neg (by rw [decide_eq_false h]; decide)]; rfl
theorem pkN_mrg (ls ps : List It) : pkN (mrg ls ps) = pkN ls + pkN ps := by
  induction ls generalizing ps with
  | nil => rw [mrg]; simp [pkN]
  | cons l ls ih =>
    induction ps with
    | nil => rw [mrg_nil]; simp [pkN]
    | cons p ps ih2 =>
      by_cases h : l.w ≤ p.w
      · rw [mrg_le h, pkN_cons, ih, pkN_cons l]; omega
      · rw [mrg_gt h, pkN_cons, ih2, pkN_cons p]; omega
theorem pkN_leaves {l : List It} (h : ∀ x ∈ l, 0 ≤ x.leaf) : pkN l = 0 := by
  unfold pkN
  rw [List.length_eq_zero_iff, List.filter_eq_nil_iff]
  intro x hx
  have := h x hx
  simp; omega
theorem pkN_all {l : List It} (h : ∀ x ∈ l, x.leaf = -1) : pkN l = l.length := by
  unfold pkN
  rw [List.filter_eq_self.2 (fun x hx => by rw [h x hx]; rfl)]
theorem pkN_nxt (lw : List Nat) (lv : List It) : pkN (nxtL lw lv) = lv.length / 2 := by
  unfold nxtL
  rw [pkN_mrg, pkN_leaves (fun x hx => by have := leafIts_leaf hx; omega), pkN_all (fun x hx => pkgs_leaf _ _ _ (Nat.le_refl _) hx), pkgs_length _ _ _ (Nat.le_refl _)]
  omega
theorem pkN_take (l : List It) (k : Nat) : pkN (l.take k) ≤ pkN l := by
  conv => rhs; rw [← List.take_append_drop k l, pkN_append]
  omega
/-- What a level lacks of twice the leaves halves from level to level. -/
theorem lvl_lack {lw : List Nat} {L : Nat} (h : lw.length ≤ 2 ^ L) : ∀ j, j < L → ∃ d, (lvlL lw j).length + d = 2 * lw.length ∧ d ≤ 2 ^ (L - j) := by
  intro j
  induction j with
  | zero =>
    intro _
    refine ⟨lw.length, ?_, h⟩
    rw [lvlL, nxtL_length]; simp; omega
  | succ j ih =>
    intro hj
    obtain ⟨d, h1, h2⟩ := ih (by omega)
    refine ⟨(d + 1) / 2, ?_, ?_⟩
    · rw [lvlL, nxtL_length]; omega
    · have e : L - j = (L - (j + 1)) + 1 := by omega
      rw [e, Nat.pow_succ] at h2
      omega
theorem lvl_last {lw : List Nat} {L : Nat} (h : lw.length ≤ 2 ^ L) (hL : 1 ≤ L) : 2 * lw.length - 2 ≤ (lvlL lw (L - 1)).length := by
  obtain ⟨d, h1, h2⟩ := lvl_lack h (L - 1) (by omega)
  rw [show L - (L - 1) = 1 by omega] at h2
  omega
/-- The lengths of codes, where there are more leaves than one: how often each leaf is met. -/
def cntL (lw : List Nat) (L : Nat) : List Nat := (stC lw.length (lvls lw L).reverse).2
theorem st_fits {lw : List Nat} {L : Nat} (h : lw.length ≤ 2 ^ L) {k : Nat} {l : List It} (hl : (lvls lw L).reverse[k]? = some l) : (stC lw.length ((lvls lw L).reverse.take k)).1 ≤ l.length := by
  have hk : k < L := by
    have := (List.getElem?_eq_some_iff.1 hl).1
    rw [List.length_reverse, lvls_length] at this; exact this
  have hl2 : l = lvlL lw (L - 1 - k) := by rw [lvls_rev hk] at hl; simpa using hl.symm
  cases k with
  | zero =>
    rw [hl2]
    show 2 * lw.length - 2 ≤ _
    exact lvl_last h (by omega)
  | succ k =>
    have hp : (lvls lw L).reverse.take (k + 1) = (lvls lw L).reverse.take k ++ [lvlL lw (L - 1 - k)] := by rw [List.take_add_one, lvls_rev (by omega)]; rfl
    rw [hp, stC_snoc, hl2]
    show 2 * pkN ((lvlL lw (L - 1 - k)).take _) ≤ _
    have h1 := pkN_take (lvlL lw (L - 1 - k)) (stC lw.length ((lvls lw L).reverse.take k)).1
    have e : L - 1 - k = (L - 1 - (k + 1)) + 1 := by omega
    rw [e, lvlL, pkN_nxt] at h1
    rw [e, lvlL]
    omega
theorem cntL_length (lw : List Nat) (L : Nat) : (cntL lw L).length = lw.length := stC_length _ _
/-- Numbers laid at places. -/
def fill (z : List Nat) (ps : List (Nat × Nat)) : List Nat := ps.foldl (fun c p => c.set p.1 p.2) z
theorem fill_length (z : List Nat) (ps : List (Nat × Nat)) : (fill z ps).length = z.length := by
  unfold fill
  induction ps generalizing z with
  | nil => rfl
  | cons p ps ih => rw [List.foldl_cons, ih, List.length_set]
theorem fill_snoc (z : List Nat) (ps : List (Nat × Nat)) (p : Nat × Nat) : fill z (ps ++ [p]) = (fill z ps).set p.1 p.2 := by unfold fill; rw [List.foldl_append]; rfl
/-- Why there are no lengths. -/
def packW (ws : List Int) (lim : Int) : Int := if alphaB ws = true ∧ 1 ≤ lim ∧ lim ≤ 15 then if 2 ^ lim.toNat < (ordL ws).length then 8 else 0 else 1
/-- The lengths that cost least. -/
def packL (ws : List Int) (L : Nat) : List Nat :=
  if (ordL ws).length = 0 then List.replicate ws.length 0
  else if (ordL ws).length = 1 then (List.replicate ws.length 0).set ((ordL ws).getD 0 0) 1
  else fill (List.replicate ws.length 0) ((ordL ws).zip (cntL (lwL ws) L))
theorem packL_length (ws : List Int) (L : Nat) : (packL ws L).length = ws.length := by
  unfold packL
  split
  · simp
  · split
    · simp
    · rw [fill_length]; simp
#print axioms st_fits
end Go.Proofs.Ytggffiikfelbjaa
