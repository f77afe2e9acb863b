/- What is chosen of the levels: leaves from the lightest on, fewer from level to level; the lengths that come of it are as wide as they may be. No program in sight. -/
import Derived.Test.YtggffiikfelbjaaOptA
namespace Go.Proofs.Ytggffiikfelbjaa
open Go.RowKit

/-- The sum of f below n. -/
def SS (f : Nat → Nat) : Nat → Nat
  | 0 => 0
  | n + 1 => SS f n + f n
theorem SS_congr {f g : Nat → Nat} {n : Nat} (h : ∀ i, i < n → f i = g i) : SS f n = SS g n := by
  induction n with
  | zero => rfl
  | succ n ih => rw [SS, SS, ih (fun i hi => h i (by omega)), h n (by omega)]
theorem SS_le {f g : Nat → Nat} {n : Nat} (h : ∀ i, i < n → f i ≤ g i) : SS f n ≤ SS g n := by
  induction n with
  | zero => exact Nat.le_refl _
  | succ n ih => have := ih (fun i hi => h i (by omega)); have := h n (by omega); rw [SS, SS]; omega
theorem SS_add (f g : Nat → Nat) (n : Nat) : SS (fun i => f i + g i) n = SS f n + SS g n := by
  induction n with
  | zero => rfl
  | succ n ih => rw [SS, SS, SS, ih]; omega
theorem SS_mul (a : Nat) (f : Nat → Nat) (n : Nat) : SS (fun i => a * f i) n = a * SS f n := by
  induction n with
  | zero => rfl
  | succ n ih => rw [SS, SS, ih, Nat.mul_add]
theorem SS_zero (n : Nat) : SS (fun _ => 0) n = 0 := by induction n with
  | zero => rfl
  | succ n ih => rw [SS, ih]
theorem SS_const (a n : Nat) : SS (fun _ => a) n = n * a := by induction n with
  | zero => simp [SS]
  | succ n ih => rw [SS, ih, Nat.succ_mul]
theorem SS_swap (f : Nat → Nat → Nat) (n m : Nat) : SS (fun i => SS (fun k => f i k) m) n = SS (fun k => SS (fun i => f i k) n) m := by
  induction n with
  | zero => rw [SS]; symm; exact SS_zero m
  | succ n ih => rw [SS, ih, ← SS_add]; rfl
theorem SS_cut {f : Nat → Nat} {C n : Nat} (h : C ≤ n) : SS (fun i => if i < C then f i else 0) n = SS f C := by
  induction n with
  | zero => obtain rfl : C = 0 := by omega
            rfl
  | succ n ih =>
    rw [SS]
    by_cases e : C = n + 1
    · subst e
      rw [SS, if_pos (by omega)]
      congr 1
      exact SS_congr fun i hi => if_pos (by omega)
    · rw [ih (by omega), if_neg (by omega)]; rfl
theorem SS_take (l : List Nat) : ∀ n, n ≤ l.length → SS (fun i => l.getD i 0) n = (l.take n).sum := by
  intro n
  induction n with
  | zero => intro _; simp [SS]
  | succ n ih =>
    intro h
    rw [SS, ih (by omega), List.take_add_one, List.sum_append]
    congr 1
    rw [List.getD_eq_getElem?_getD, List.getElem?_eq_getElem (by omega)]; simp
theorem upS_eq (f : Nat → Nat) (j : Nat) : upS f j = SS f (j + 1) := by
  induction j with
  | zero => simp [upS, SS]
  | succ j ih => rw [upS, ih]; rfl
/-- Backwards. -/
theorem SS_rev (f : Nat → Nat) (n : Nat) : SS (fun k => f (n - 1 - k)) n = SS f n := by
  have key : ∀ n, SS (fun k => f (n - 1 - k)) n = SS f n := by
    intro n
    induction n generalizing f with
    | zero => rfl
    | succ n ih =>
      have h1 : SS f (n + 1) = f 0 + SS (fun i => f (i + 1)) n := by
        clear ih
        induction n with
        | zero => simp [SS]
        | succ n ih2 => rw [SS, ih2, SS]; omega
      rw [SS, h1, ← ih (fun i => f (i + 1))]
      have : SS (fun k => f (n + 1 - 1 - k)) n = SS (fun k => f (n - 1 - k + 1)) n := SS_congr fun i hi => by congr 1; omega
      rw [this, show n + 1 - 1 - n = 0 by omega]; omega
  exact key n
/-- Of a part of a rising row, as many of its first weigh no more. -/
theorem SS_part {f : Nat → Nat} (p : Nat → Prop) [DecidablePred p] : ∀ n, (∀ i j, i ≤ j → j < n → f i ≤ f j) → SS (fun i => if p i then 1 else 0) n ≤ n ∧ SS f (SS (fun i => if p i then 1 else 0) n) ≤ SS (fun i => if p i then f i else 0) n := by
  intro n
  induction n with
  | zero => intro _; exact ⟨Nat.le_refl _, Nat.le_refl _⟩
  | succ n ih =>
    intro h
    obtain ⟨h1, h2⟩ := ih (fun i j a b => h i j a (by omega))
    simp only [SS]
    by_cases hp : p n
    · rw [if_pos hp, if_pos hp]
      refine ⟨by omega, ?_⟩
      rw [SS]
      have := h (SS (fun i => if p i then 1 else 0) n) n h1 (by omega)
      omega
    · rw [if_neg hp, if_neg hp]
      exact ⟨by omega, h2⟩
/-- Powers from a place on. -/
theorem SS_pow (L : Nat) : ∀ l, l ≤ L → SS (fun k => if k < l then 2 ^ (L - 1 - k) else 0) L + 2 ^ (L - l) = 2 ^ L := by
  intro l
  induction l with
  | zero => intro _; have : SS (fun k => if k < 0 then 2 ^ (L - 1 - k) else 0) L = 0 := (SS_congr (g := fun _ => 0) fun i _ => if_neg (by omega)).trans (SS_zero L)
            rw [this]; simp
  | succ l ih =>
    intro hl
    have i := ih (by omega)
    rw [SS_cut (by omega)] at i ⊢
    rw [SS]
    have e : 2 ^ (L - l) = 2 ^ (L - 1 - l) + 2 ^ (L - (l + 1)) := by
      rw [show L - l = (L - 1 - l) + 1 by omega, show L - (l + 1) = L - 1 - l by omega, Nat.pow_succ]; omega
    omega
/-- A row of yes that ends: how many. -/
theorem SS_count (p : Nat → Prop) [DecidablePred p] : ∀ n, (∀ k, p (k + 1) → p k) → ∀ k, k < n → (p k ↔ k < SS (fun k => if p k then 1 else 0) n) := by
  intro n hd
  have down : ∀ a b, a ≤ b → p b → p a := by
    intro a b hab
    induction b with
    | zero => intro h; obtain rfl : a = 0 := by omega
              exact h
    | succ b ih =>
      intro h
      by_cases e : a = b + 1
      · subst e; exact h
      · exact ih (by omega) (hd b h)
  have le : ∀ n, SS (fun k => if p k then 1 else 0) n ≤ n := by
    intro n
    induction n with
    | zero => exact Nat.le_refl _
    | succ n ih => rw [SS]; split <;> omega
  induction n with
  | zero => intro k hk; omega
  | succ n ih =>
    intro k hk
    rw [SS]
    by_cases hp : p n
    · have full : SS (fun k => if p k then 1 else 0) n = n := by
        rw [SS_congr (g := fun _ => 1) fun i hi => if_pos (down i n (by omega) hp), SS_const]; omega
      rw [if_pos hp, full]
      exact ⟨fun _ => by omega, fun _ => down k n (by omega) hp⟩
    · rw [if_neg hp, Nat.add_zero]
      rcases Nat.lt_or_ge k n with h | h
      · exact ih k h
      · obtain rfl : k = n := by omega
        exact ⟨fun h => absurd h hp, fun h => by have := le k; omega⟩
theorem SS_pos {f : Nat → Nat} {n i : Nat} (h : i < n) : f i ≤ SS f n := by
  induction n with
  | zero => omega
  | succ n ih =>
    rw [SS]
    by_cases e : i = n
    · subst e; omega
    · have := ih (by omega); omega
theorem SS_two {f : Nat → Nat} {n i k : Nat} (hi : i < n) (hk : k < n) (hne : i ≠ k) : f i + f k ≤ SS f n := by
  induction n with
  | zero => omega
  | succ n ih =>
    rw [SS]
    by_cases e : i = n
    · subst e; have := SS_pos (f := f) (show k < i by omega); omega
    · by_cases e2 : k = n
      · subst e2; have := SS_pos (f := f) (show i < k by omega); omega
      · have := ih (by omega) (by omega); omega
#print axioms SS_count
end Go.Proofs.Ytggffiikfelbjaa
