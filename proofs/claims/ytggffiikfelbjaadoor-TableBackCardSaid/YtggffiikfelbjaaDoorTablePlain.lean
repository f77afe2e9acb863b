/- Lengths of codes as bits, plainly: what is written, what is read, and that the one is the other's way back. No program in sight. -/
import Derived.Test.YtggffiikfelbjaaDoorBitsPlain
import Derived.Test.YtggffiikfelbjaaDoorRoom
namespace Go.Proofs.YtggffiikfelbjaaDoor
open Go.RowKit

/-- Steps up (10) or down (11). -/
def stepsT (up : Bool) : Nat → List Bool
  | 0 => []
  | d + 1 => true :: (!up) :: stepsT up d
/-- The way from one length to the next one. -/
def moveT (now l : Nat) : List Bool := (if now < l then stepsT true (l - now) else stepsT false (now - l)) ++ [false]
def tabT (now : Nat) : List Nat → List Bool
  | [] => []
  | l :: ls => moveT now l ++ tabT l ls
/-- All bits of some lengths. -/
def tableL (ls : List Nat) : List Bool := natBits (ls.headD 0) 4 ++ tabT (ls.headD 0) ls
/-- The next length: why not (5: the bits end, 7: no table), it, and the bits behind it. -/
def nextT : List Bool → Nat → Int → Int × Nat × List Bool
  | [], _, _ => (5, 0, [])
  | false :: r, now, _ => (0, now, r)
  | [true], _, _ => (5, 0, [])
  | true :: true :: r, now, way => if now = 0 ∨ way = 1 then (7, 0, []) else nextT r (now - 1) (-1)
  | true :: false :: r, now, way => if now = 15 ∨ way = -1 then (7, 0, []) else nextT r (now + 1) 1
/-- The next n lengths; 'first': the first one must be the one that was told. -/
def lensT : Nat → Bool → List Bool → Nat → Int × List Nat × List Bool
  | 0, _, r, _ => (0, [], r)
  | n + 1, first, r, now =>
    if (nextT r now 0).1 = 0 then
      if first = true ∧ (nextT r now 0).2.1 ≠ now then (7, [], [])
      else if (lensT n false (nextT r now 0).2.2 (nextT r now 0).2.1).1 = 0 then (0, (nextT r now 0).2.1 :: (lensT n false (nextT r now 0).2.2 (nextT r now 0).2.1).2.1, (lensT n false (nextT r now 0).2.2 (nextT r now 0).2.1).2.2)
      else ((lensT n false (nextT r now 0).2.2 (nextT r now 0).2.1).1, [], [])
    else ((nextT r now 0).1, [], [])

theorem moveT_up {now l : Nat} (h : now < l) : moveT now l = true :: false :: moveT (now + 1) l := by
  unfold moveT
  rw [if_pos h]
  obtain ⟨d, hd⟩ : ∃ d, l - now = d + 1 := ⟨l - now - 1, by omega⟩
  rw [hd, stepsT]
  by_cases g : now + 1 < l
  · rw [if_pos g, show l - (now + 1) = d by omega]; rfl
  · rw [if_neg g, show d = 0 by omega, show now + 1 - l = 0 by omega]; rfl
theorem moveT_down {now l : Nat} (h : l < now) : moveT now l = true :: true :: moveT (now - 1) l := by
  unfold moveT
  rw [if_neg (by omega)]
  obtain ⟨d, hd⟩ : ∃ d, now - l = d + 1 := ⟨now - l - 1, by omega⟩
  rw [hd, stepsT, if_neg (by omega), show now - 1 - l = d by omega]; rfl
theorem moveT_same (now : Nat) : moveT now now = [false] := by
  unfold moveT; rw [if_neg (by omega), Nat.sub_self]; rfl
/-- What was written is read. -/
theorem nextT_move {l : Nat} (hl : l ≤ 15) : ∀ (d now : Nat) (way : Int) (r : List Bool), now ≤ 15 → d = (l - now) + (now - l) → (now < l → way ≠ -1) → (l < now → way ≠ 1) → nextT (moveT now l ++ r) now way = (0, l, r) := by
  intro d
  induction d with
  | zero =>
    intro now way r hn hd _ _
    obtain rfl : now = l := by omega
    rw [moveT_same]; rfl
  | succ d ih =>
    intro now way r hn hd h1 h2
    rcases Nat.lt_or_ge now l with g | g
    · have := h1 g
      rw [moveT_up g, List.cons_append, List.cons_append, nextT, if_neg (by omega)]
      exact ih (now + 1) 1 r (by omega) (by omega) (fun _ => by decide) (fun _ => by omega)
    · have g' : l < now := by omega
      have := h2 g'
      rw [moveT_down g', List.cons_append, List.cons_append, nextT, if_neg (by omega)]
      exact ih (now - 1) (-1) r (by omega) (by omega) (fun _ => by omega) (fun _ => by decide)
theorem lensT_tab : ∀ (ls : List Nat) (first : Bool) (now : Nat) (r : List Bool), (∀ x ∈ ls, x ≤ 15) → now ≤ 15 → (first = true → ∀ x, ls.head? = some x → x = now) → lensT ls.length first (tabT now ls ++ r) now = (0, ls, r) := by
  intro ls
  induction ls with
  | nil => intro first now r _ _ _; rfl
  | cons l ls ih =>
    intro first now r h hn hf
    have hl := h l (by simp)
    have e : nextT (tabT now (l :: ls) ++ r) now 0 = (0, l, tabT l ls ++ r) := by
      rw [tabT, List.append_assoc]
      exact nextT_move hl _ now 0 _ hn rfl (fun _ => by decide) (fun _ => by decide)
    rw [List.length_cons, lensT, e]
    have i := ih false l r (fun x hx => h x (List.mem_cons_of_mem _ hx)) hl (fun hh => by cases hh)
    simp only [i, if_true]
    rw [if_neg]
    rintro ⟨a, b⟩
    exact b (hf a l rfl)
/-- What is read has its bits. -/
theorem nextT_bits : ∀ (n : Nat) (r : List Bool) (now : Nat) (way : Int) (l : Nat) (r' : List Bool), r.length ≤ n → now ≤ 15 → nextT r now way = (0, l, r') → l ≤ 15 ∧ (way = 1 → now ≤ l) ∧ (way = -1 → l ≤ now) ∧ r = moveT now l ++ r' := by
  intro n
  induction n with
  | zero =>
    intro r now way l r' hr _ h
    obtain rfl : r = [] := List.eq_nil_of_length_eq_zero (by omega)
    rw [nextT] at h; cases h
  | succ n ih =>
    intro r now way l r' hr hn h
    match r, hr, h with
    | [], _, h => rw [nextT] at h; cases h
    | false :: r, _, h =>
      rw [nextT] at h
      simp only [Prod.mk.injEq, true_and] at h
      obtain ⟨rfl, rfl⟩ := h
      exact ⟨hn, fun _ => Nat.le_refl _, fun _ => Nat.le_refl _, by rw [moveT_same]; rfl⟩
    | [true], _, h => rw [nextT] at h; cases h
    | true :: true :: r, hr, h =>
      rw [nextT] at h
      split at h
      · cases h
      · rename_i g
        obtain ⟨a, b, c, d⟩ := ih r (now - 1) (-1) l r' (by simp at hr; omega) (by omega) h
        have := c rfl
        refine ⟨a, fun e => absurd (.inr e) g, fun _ => by omega, ?_⟩
        rw [moveT_down (by omega), d]; rfl
    | true :: false :: r, hr, h =>
      rw [nextT] at h
      split at h
      · cases h
      · rename_i g
        obtain ⟨a, b, c, d⟩ := ih r (now + 1) 1 l r' (by simp at hr; omega) (by omega) h
        have := b rfl
        refine ⟨a, fun _ => by omega, fun e => absurd (.inr e) g, ?_⟩
        rw [moveT_up (by omega), d]; rfl
theorem lensT_bits : ∀ (n : Nat) (first : Bool) (r : List Bool) (now : Nat) (ls : List Nat) (r' : List Bool), now ≤ 15 → lensT n first r now = (0, ls, r') → ls.length = n ∧ (∀ x ∈ ls, x ≤ 15) ∧ (first = true → ∀ x, ls.head? = some x → x = now) ∧ r = tabT now ls ++ r' := by
  intro n
  induction n with
  | zero =>
    intro first r now ls r' _ h
    rw [lensT] at h
    simp only [Prod.mk.injEq, true_and] at h
    obtain ⟨rfl, rfl⟩ := h
    exact ⟨rfl, by simp, by simp, rfl⟩
  | succ n ih =>
    intro first r now ls r' hn h
    rw [lensT] at h
    obtain ⟨⟨k, l, r1⟩, hx⟩ : ∃ x, nextT r now 0 = x := ⟨_, rfl⟩
    rw [hx] at h
    simp only at h
    split at h
    · rename_i hk
      subst hk
      obtain ⟨a, _, _, d⟩ := nextT_bits r.length r now 0 l r1 (Nat.le_refl _) hn hx
      split at h
      · cases h
      · rename_i hf
        obtain ⟨⟨k2, ls2, r2⟩, hy⟩ : ∃ y, lensT n false r1 l = y := ⟨_, rfl⟩
        rw [hy] at h
        simp only at h
        split at h
        · rename_i hk2
          subst hk2
          simp only [Prod.mk.injEq, true_and] at h
          obtain ⟨rfl, rfl⟩ := h
          obtain ⟨a2, b2, _, d2⟩ := ih false r1 l ls2 r2 a hy
          refine ⟨by simp [a2], ?_, ?_, ?_⟩
          · intro x hx'
            rcases List.mem_cons.1 hx' with rfl | h'
            · exact a
            · exact b2 x h'
          · intro hft x hx'
            simp at hx'
            subst hx'
            rcases Decidable.em (l = now) with e | e
            · exact e
            · exact absurd ⟨hft, e⟩ hf
          · rw [d, d2, tabT, List.append_assoc]
        · rename_i hk2
          simp only [Prod.mk.injEq] at h
          exact absurd h.1 hk2
    · rename_i hk
      simp only [Prod.mk.injEq] at h
      exact absurd h.1 hk
/-- Bits that end too soon. -/
theorem nextT_cut {l : Nat} (hl : l ≤ 15) : ∀ (d now : Nat) (way : Int) (q t : List Bool), now ≤ 15 → d = (l - now) + (now - l) → (now < l → way ≠ -1) → (l < now → way ≠ 1) → q ++ t = moveT now l → t ≠ [] → (nextT q now way).1 = 5 := by
  intro d
  induction d with
  | zero =>
    intro now way q t hn hd _ _ h ht
    obtain rfl : now = l := by omega
    rw [moveT_same] at h
    cases q with
    | nil => rfl
    | cons x q => simp at h; exact absurd h.2.2 ht
  | succ d ih =>
    intro now way q t hn hd h1 h2 h ht
    rcases Nat.lt_or_ge now l with g | g
    · have := h1 g
      rw [moveT_up g] at h
      match q, h with
      | [], _ => rfl
      | [x], h => simp at h; rw [h.1]; rfl
      | x :: y :: q, h =>
        simp at h
        obtain ⟨rfl, rfl, h⟩ := h
        rw [nextT, if_neg (by omega)]
        exact ih (now + 1) 1 q t (by omega) (by omega) (fun _ => by decide) (fun _ => by omega) h ht
    · have g' : l < now := by omega
      have := h2 g'
      rw [moveT_down g'] at h
      match q, h with
      | [], _ => rfl
      | [x], h => simp at h; rw [h.1]; rfl
      | x :: y :: q, h =>
        simp at h
        obtain ⟨rfl, rfl, h⟩ := h
        rw [nextT, if_neg (by omega)]
        exact ih (now - 1) (-1) q t (by omega) (by omega) (fun _ => by omega) (fun _ => by decide) h ht
theorem lensT_cut : ∀ (ls : List Nat) (first : Bool) (now : Nat) (q t : List Bool), (∀ x ∈ ls, x ≤ 15) → now ≤ 15 → (first = true → ∀ x, ls.head? = some x → x = now) → q ++ t = tabT now ls → t ≠ [] → (lensT ls.length first q now).1 = 5 := by
  intro ls
  induction ls with
  | nil => intro first now q t _ _ _ h ht; simp [tabT] at h; exact absurd h.2 ht
  | cons l ls ih =>
    intro first now q t hle hn hf h ht
    have hl := hle l (by simp)
    rw [tabT] at h
    rw [List.length_cons, lensT]
    rcases List.append_eq_append_iff.1 h with ⟨a, h1, h2⟩ | ⟨c, h1, h2⟩
    · -- q is within the first move
      by_cases ha : a = []
      · subst ha
        rw [List.append_nil] at h1
        have e := nextT_move hl _ now 0 [] hn rfl (fun _ => by decide) (fun _ => by decide)
        rw [List.append_nil, h1] at e
        have i := ih false l [] t (fun x hx => hle x (List.mem_cons_of_mem _ hx)) hl (fun hh => by cases hh) (by rw [List.nil_append, h2]; rfl) ht
        rw [e]
        simp only [if_true]
        rw [if_neg (by rintro ⟨x, y⟩; exact y (hf x l rfl)), if_neg (by rw [i]; decide)]
        exact i
      · have e := nextT_cut hl _ now 0 q a hn rfl (fun _ => by decide) (fun _ => by decide) h1.symm ha
        rw [if_neg (by rw [e]; decide)]
        exact e
    · have e := nextT_move hl _ now 0 c hn rfl (fun _ => by decide) (fun _ => by decide)
      rw [← h1] at e
      have i := ih false l c t (fun x hx => hle x (List.mem_cons_of_mem _ hx)) hl (fun hh => by cases hh) h2.symm ht
      rw [e]
      simp only [if_true]
      rw [if_neg (by rintro ⟨x, y⟩; exact y (hf x l rfl)), if_neg (by rw [i]; decide)]
      exact i
#print axioms lensT_cut
end Go.Proofs.YtggffiikfelbjaaDoor
