/- Packages of coins cost least: no other choice of coins of that width does. No program in sight. -/
import Derived.Test.YtggffiikfelbjaaLenPlain
namespace Go.Proofs.Ytggffiikfelbjaa
open Go.RowKit

def SortedW (l : List It) : Prop := l.Pairwise fun a b => a.w ≤ b.w
/-- What some items weigh. -/
def sumW (l : List It) : Nat := (l.map fun x => x.w).sum
def sumN (l : List Nat) : Nat := l.sum
theorem sumW_cons (x : It) (l : List It) : sumW (x :: l) = x.w + sumW l := by simp [sumW]
theorem sumW_append (a b : List It) : sumW (a ++ b) = sumW a + sumW b := by simp [sumW]
theorem mrg_sorted {ls ps : List It} (h1 : SortedW ls) (h2 : SortedW ps) : SortedW (mrg ls ps) := by
  induction ls generalizing ps with
  | nil => rw [mrg]; exact h2
  | cons l ls ih =>
    induction ps with
    | nil => rw [mrg_nil]; exact h1
    | cons p ps ih2 =>
      have h1' := List.pairwise_cons.1 h1
      have h2' := List.pairwise_cons.1 h2
      by_cases h : l.w ≤ p.w
      · rw [mrg_le h]
        refine List.pairwise_cons.2 ⟨fun x hx => ?_, ih h1'.2 h2⟩
        rcases mrg_mem hx with hx | hx
        · exact h1'.1 x hx
        · rcases List.mem_cons.1 hx with rfl | hx
          · exact h
          · exact Nat.le_trans h (h2'.1 x hx)
      · rw [mrg_gt h]
        refine List.pairwise_cons.2 ⟨fun x hx => ?_, ih2 h2'.2⟩
        rcases mrg_mem hx with hx | hx
        · rcases List.mem_cons.1 hx with rfl | hx
          · omega
          · have := h1'.1 x hx; omega
        · exact h2'.1 x hx
theorem leafIts_sorted {k : Nat} {lw : List Nat} (h : lw.Pairwise fun a b => a ≤ b) : SortedW (leafIts k lw) := by
  induction lw generalizing k with
  | nil => exact List.Pairwise.nil
  | cons w l ih =>
    rw [leafIts]
    have h' := List.pairwise_cons.1 h
    exact List.pairwise_cons.2 ⟨fun x hx => h'.1 _ (leafIts_w hx), ih h'.2⟩
theorem pkgs_ge {B : Nat} : ∀ (n i : Nat) (l : List It), l.length ≤ n → (∀ x ∈ l, B ≤ x.w) → ∀ x ∈ pkgs i l, 2 * B ≤ x.w := by
  intro n
  induction n with
  | zero => intro i l h _; have : l = [] := List.eq_nil_of_length_eq_zero (by omega); subst this; intro x hx; simp [pkgs] at hx
  | succ n ih =>
    intro i l h hB
    match l, h, hB with
    | [], _, _ => intro x hx; simp [pkgs] at hx
    | [_], _, _ => intro x hx; simp [pkgs] at hx
    | a :: b :: r, h, hB =>
      intro x hx
      rw [pkgs] at hx
      rcases List.mem_cons.1 hx with rfl | hx
      · have h1 := hB a (by simp)
        have h2 := hB b (by simp)
        show 2 * B ≤ a.w + b.w
        omega
      · exact ih _ r (by simp at h; omega) (fun y hy => hB y (by simp [hy])) x hx
theorem pkgs_sorted : ∀ (n i : Nat) (l : List It), l.length ≤ n → SortedW l → SortedW (pkgs i l) := by
  intro n
  induction n with
  | zero => intro i l h _; have : l = [] := List.eq_nil_of_length_eq_zero (by omega); subst this; exact List.Pairwise.nil
  | succ n ih =>
    intro i l h hs
    match l, h, hs with
    | [], _, _ => exact List.Pairwise.nil
    | [_], _, _ => exact List.Pairwise.nil
    | a :: b :: r, h, hs =>
      rw [pkgs]
      have h1 := List.pairwise_cons.1 hs
      have h2 := List.pairwise_cons.1 h1.2
      refine List.pairwise_cons.2 ⟨fun x hx => ?_, ih _ r (by simp at h; omega) h2.2⟩
      have := pkgs_ge (B := b.w) r.length (i + 2) r (Nat.le_refl _) (fun y hy => h2.1 y hy) x hx
      have h3 := h1.1 b (by simp)
      show a.w + b.w ≤ x.w
      omega
theorem nxtL_sorted {lw : List Nat} {lv : List It} (h : lw.Pairwise fun a b => a ≤ b) (h2 : SortedW lv) : SortedW (nxtL lw lv) :=
  mrg_sorted (leafIts_sorted h) (pkgs_sorted _ _ _ (Nat.le_refl _) h2)
theorem lvlL_sorted {lw : List Nat} (h : lw.Pairwise fun a b => a ≤ b) (j : Nat) : SortedW (lvlL lw j) := by
  induction j with
  | zero => exact nxtL_sorted h List.Pairwise.nil
  | succ j ih => exact nxtL_sorted h ih
theorem sumW_take_le {l : List It} (h : SortedW l) {k : Nat} {B : Nat} (hk : k < l.length) (hB : ∀ x ∈ l, B ≤ x.w) : B + sumW (l.take k) ≤ sumW (l.take (k + 1)) := by
  obtain ⟨x, hx⟩ : ∃ x, l[k]? = some x := ⟨l[k], by simp [hk]⟩
  have e : l.take (k + 1) = l.take k ++ [x] := by rw [List.take_add_one, hx]; rfl
  rw [e, sumW_append, sumW_cons]
  have := hB x (List.mem_of_getElem? hx)
  simp [sumW] at *
  omega
/-- The first ones of a merge weigh no more than as many of the two. -/
theorem mrg_least {ls ps : List It} (h1 : SortedW ls) (h2 : SortedW ps) : ∀ a b, a ≤ ls.length → b ≤ ps.length → sumW ((mrg ls ps).take (a + b)) ≤ sumW (ls.take a) + sumW (ps.take b) := by
  induction ls generalizing ps with
  | nil => intro a b ha _; rw [mrg]; simp at ha; subst ha; simp [sumW]
  | cons l ls ih =>
    have h1' := List.pairwise_cons.1 h1
    induction ps with
    | nil => intro a b _ hb; rw [mrg_nil]; simp at hb; subst hb; simp [sumW]
    | cons p ps ih2 =>
      have h2' := List.pairwise_cons.1 h2
      intro a b ha hb
      by_cases h : l.w ≤ p.w
      · rw [mrg_le h]
        cases a with
        | succ a =>
          rw [show a + 1 + b = (a + b) + 1 by omega, List.take_succ_cons, List.take_succ_cons, sumW_cons, sumW_cons]
          have := ih h1'.2 h2 a b (by simpa using ha) hb
          omega
        | zero =>
          cases b with
          | zero => simp [sumW]
          | succ b =>
            rw [show 0 + (b + 1) = b + 1 by omega, List.take_succ_cons, sumW_cons]
            have i := ih h1'.2 h2 0 b (by omega) (by simp at hb ⊢; omega)
            rw [Nat.zero_add] at i
            have j := sumW_take_le (k := b) (B := l.w) h2 (by simp at hb ⊢; omega) (fun x hx => by
              rcases List.mem_cons.1 hx with rfl | hx
              · exact h
              · exact Nat.le_trans h (h2'.1 x hx))
            simp [sumW] at *
            omega
      · rw [mrg_gt h]
        cases b with
        | succ b =>
          rw [show a + (b + 1) = (a + b) + 1 by omega, List.take_succ_cons, List.take_succ_cons, sumW_cons, sumW_cons]
          have := ih2 h2'.2 a b ha (by simpa using hb)
          omega
        | zero =>
          cases a with
          | zero => simp [sumW]
          | succ a =>
            rw [show a + 1 + 0 = a + 1 by omega, List.take_succ_cons, sumW_cons]
            have i := ih2 h2'.2 a 0 (by simp at ha ⊢; omega) (by omega)
            rw [Nat.add_zero] at i
            have j := sumW_take_le (k := a) (B := p.w) h1 (by simp at ha ⊢; omega) (fun x hx => by
              rcases List.mem_cons.1 hx with rfl | hx
              · omega
              · have := h1'.1 x hx; omega)
            simp [sumW] at *
            omega
theorem leafIts_sum (k : Nat) (lw : List Nat) (a : Nat) : sumW ((leafIts k lw).take a) = (lw.take a).sum := by
  induction lw generalizing k a with
  | nil => simp [leafIts, sumW]
  | cons w l ih =>
    cases a with
    | zero => simp [sumW]
    | succ a => rw [leafIts, List.take_succ_cons, sumW_cons, ih, List.take_succ_cons, List.sum_cons]
theorem pkgs_sum : ∀ (b i : Nat) (l : List It), 2 * b ≤ l.length → sumW ((pkgs i l).take b) = sumW (l.take (2 * b)) := by
  intro b
  induction b with
  | zero => intro i l _; simp [sumW]
  | succ b ih =>
    intro i l h
    match l, h with
    | [], h => simp at h
    | [_], h => simp at h; omega
    | x :: y :: r, h =>
      rw [pkgs, List.take_succ_cons, sumW_cons, ih _ r (by simp at h; omega), show 2 * (b + 1) = 2 * b + 1 + 1 by omega, List.take_succ_cons, List.take_succ_cons, sumW_cons, sumW_cons]
      show x.w + y.w + _ = _
      omega
/-- The sum of f at 0 .. j. -/
def upS (f : Nat → Nat) : Nat → Nat
  | 0 => f 0
  | j + 1 => upS f j + f (j + 1)
/-- Any coins that are as wide as m of a level's items weigh at least as much as its first m. -/
theorem coins_least {lw : List Nat} (hs : lw.Pairwise fun a b => a ≤ b) : ∀ (j m : Nat) (c : Nat → Nat), (∀ t, c t ≤ lw.length) → m * 2 ^ j ≤ upS (fun t => c t * 2 ^ t) j →
    m ≤ (lvlL lw j).length ∧ sumW ((lvlL lw j).take m) ≤ upS (fun t => (lw.take (c t)).sum) j := by
  intro j
  induction j with
  | zero =>
    intro m c hc h
    simp [upS] at h
    have hm : m ≤ lw.length := Nat.le_trans h (hc 0)
    have e : lvlL lw 0 = leafIts 0 lw := by rw [lvlL, nxtL]; exact mrg_nil _
    rw [e, leafIts_length, leafIts_sum]
    refine ⟨hm, ?_⟩
    show (lw.take m).sum ≤ (lw.take (c 0)).sum
    have : lw.take (c 0) = lw.take m ++ (lw.take (c 0)).drop m := by
      conv => lhs; rw [← List.take_append_drop m (lw.take (c 0))]
      rw [List.take_take, Nat.min_eq_left h]
    rw [this, List.sum_append]; omega
  | succ j ih =>
    intro m c hc h
    have hsl := leafIts_sorted (k := 0) hs
    have hsp := pkgs_sorted _ 0 (lvlL lw j) (Nat.le_refl _) (lvlL_sorted hs j)
    have hlen : (lvlL lw (j + 1)).length = lw.length + (lvlL lw j).length / 2 := by rw [lvlL, nxtL_length]
    have hpl := pkgs_length _ 0 (lvlL lw j) (Nat.le_refl _)
    rw [hlen]
    by_cases hcm : m ≤ c (j + 1)
    · have hm : m ≤ lw.length := Nat.le_trans hcm (hc _)
      refine ⟨by omega, ?_⟩
      have i := mrg_least hsl hsp m 0 (by rw [leafIts_length]; exact hm) (by omega)
      rw [Nat.add_zero, leafIts_sum] at i
      have e : lw.take (c (j + 1)) = lw.take m ++ (lw.take (c (j + 1))).drop m := by
        conv => lhs; rw [← List.take_append_drop m (lw.take (c (j + 1)))]
        rw [List.take_take, Nat.min_eq_left hcm]
      have e2 : (lw.take (c (j + 1))).sum = (lw.take m).sum + ((lw.take (c (j + 1))).drop m).sum := by
        conv => lhs; rw [e]
        rw [List.sum_append]
      have i2 : sumW ((lvlL lw (j + 1)).take m) ≤ (lw.take m).sum := by
        rw [lvlL, nxtL]; simpa [sumW] using i
      show _ ≤ upS _ j + (lw.take (c (j + 1))).sum
      omega
    · obtain ⟨b, hb⟩ : ∃ b, m = c (j + 1) + b := ⟨m - c (j + 1), by omega⟩
      have h2 : (2 * b) * 2 ^ j ≤ upS (fun t => c t * 2 ^ t) j := by
        have h3 : m * 2 ^ (j + 1) ≤ upS (fun t => c t * 2 ^ t) j + c (j + 1) * 2 ^ (j + 1) := h
        rw [hb, Nat.add_mul] at h3
        have e : (2 * b) * 2 ^ j = b * 2 ^ (j + 1) := by rw [Nat.pow_succ, Nat.mul_comm 2 b, Nat.mul_assoc, Nat.mul_comm 2 (2 ^ j)]
        omega
      obtain ⟨i1, i2⟩ := ih (2 * b) c hc h2
      have hcj := hc (j + 1)
      refine ⟨by omega, ?_⟩
      have i := mrg_least hsl hsp (c (j + 1)) b (by rw [leafIts_length]; exact hcj) (by rw [hpl]; omega)
      rw [leafIts_sum, pkgs_sum b 0 (lvlL lw j) i1] at i
      have i3 : sumW ((lvlL lw (j + 1)).take m) ≤ (lw.take (c (j + 1))).sum + sumW ((lvlL lw j).take (2 * b)) := by
        rw [lvlL, nxtL, hb]; exact i
      show _ ≤ upS _ j + (lw.take (c (j + 1))).sum
      omega
#print axioms coins_least
end Go.Proofs.Ytggffiikfelbjaa
