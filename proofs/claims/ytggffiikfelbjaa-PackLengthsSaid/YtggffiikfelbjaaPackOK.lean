/- The lengths by symbols: what Lengths hands back, plainly. No program in sight. -/
import Derived.Test.YtggffiikfelbjaaOptE
namespace Go.Proofs.Ytggffiikfelbjaa
open Go.RowKit

theorem SS_range (f : Nat → Nat) (n : Nat) : SS f n = ((List.range n).map f).sum := by
  induction n with
  | zero => rfl
  | succ n ih => rw [SS, ih, List.range_succ, List.map_append, List.sum_append]; simp
theorem SS_list (l : List Nat) (f : Nat → Nat) : SS (fun i => f (l.getD i 0)) l.length = (l.map f).sum := by
  have h := SS_take (l.map f) l.length (by simp)
  rw [List.take_of_length_le (by simp)] at h
  rw [← h]
  refine SS_congr fun i hi => ?_
  rw [List.getD_eq_getElem?_getD, List.getD_eq_getElem?_getD, List.getElem?_map, List.getElem?_eq_getElem hi]; rfl
theorem sum_perm {a b : List Nat} (h : a.Perm b) : a.sum = b.sum := by
  induction h with
  | nil => rfl
  | cons x _ ih => rw [List.sum_cons, List.sum_cons, ih]
  | swap x y l => rw [List.sum_cons, List.sum_cons, List.sum_cons, List.sum_cons]; omega
  | trans _ _ ih1 ih2 => rw [ih1, ih2]
/-- A sum over all symbols: over those that have a weight, in order, and over the others. -/
theorem sum_ord (ws : List Int) (f : Nat → Nat) : SS f ws.length = SS (fun i => f ((ordL ws).getD i 0)) (ordL ws).length + SS (fun s => if 0 < ws.getD s 0 then 0 else f s) ws.length := by
  rw [SS_list, sum_perm ((ordL_perm ws).map f)]
  unfold symL
  have key : ∀ k, SS f k = ((symK ws k).map f).sum + SS (fun s => if 0 < ws.getD s 0 then 0 else f s) k := by
    intro k
    induction k with
    | zero => rfl
    | succ k ih =>
      rw [SS, ih, symK_step, List.map_append, List.sum_append, SS]
      by_cases h : 0 < ws.getD k 0
      · rw [if_pos h, if_pos h]; simp; omega
      · rw [if_neg h, if_neg h]; simp; omega
  exact key _
theorem ord_nodup (ws : List Int) : (ordL ws).Nodup := (ordL_sorted ws).imp fun h e => by subst e; exact Lx.irrefl h
theorem ord_get {ws : List Int} {i : Nat} (h : i < (ordL ws).length) : (ordL ws).getD i 0 < ws.length ∧ 0 < ws.getD ((ordL ws).getD i 0) 0 := by
  have e : (ordL ws).getD i 0 = (ordL ws)[i] := by rw [List.getD_eq_getElem?_getD, List.getElem?_eq_getElem h]; rfl
  rw [e]; exact ordL_lt (List.getElem_mem h)
/-- Each symbol that has a weight has its place. -/
theorem ord_has {ws : List Int} {s : Nat} (hs : s < ws.length) (h : 0 < ws.getD s 0) : ∃ i, i < (ordL ws).length ∧ (ordL ws).getD i 0 = s := by
  have hm : s ∈ ordL ws := (ordL_perm ws).symm.subset (symK_mem hs h)
  obtain ⟨i, hi, e⟩ := List.getElem_of_mem hm
  exact ⟨i, hi, by rw [List.getD_eq_getElem?_getD, List.getElem?_eq_getElem hi]; exact e⟩
theorem lwL_get {ws : List Int} {i : Nat} (h : i < (ordL ws).length) : (lwL ws).getD i 0 = (ws.getD ((ordL ws).getD i 0) 0).toNat := by
  have e : (ordL ws).getD i 0 = (ordL ws)[i] := by rw [List.getD_eq_getElem?_getD, List.getElem?_eq_getElem h]; rfl
  rw [e]
  unfold lwL
  rw [List.getD_eq_getElem?_getD, List.getElem?_map, List.getElem?_eq_getElem h]; rfl
theorem lwL_sorted (ws : List Int) : (lwL ws).Pairwise fun a b => a ≤ b := by
  unfold lwL
  rw [List.pairwise_map]
  exact (ordL_sorted ws).imp fun h => by unfold Lx at h; omega
theorem fill_out {ps : List (Nat × Nat)} {s : Nat} : ∀ {z : List Nat}, (∀ p ∈ ps, p.1 ≠ s) → (fill z ps).getD s 0 = z.getD s 0 := by
  induction ps with
  | nil => intro z _; rfl
  | cons p ps ih =>
    intro z h
    show (fill (z.set p.1 p.2) ps).getD s 0 = _
    rw [ih (fun q hq => h q (List.mem_cons_of_mem _ hq)), List.getD_eq_getElem?_getD, List.getElem?_set_ne (h p (by simp)), ← List.getD_eq_getElem?_getD]
theorem fill_in {o c : List Nat} (hn : o.Nodup) : ∀ {z : List Nat}, (∀ s ∈ o, s < z.length) → o.length = c.length → ∀ i, i < o.length → (fill z (o.zip c)).getD (o.getD i 0) 0 = c.getD i 0 := by
  induction o generalizing c with
  | nil => intro z _ _ i hi; simp at hi
  | cons s o ih =>
    intro z hz hl i hi
    cases c with
    | nil => simp at hl
    | cons v c =>
      have hn' := List.nodup_cons.1 hn
      show (fill (z.set s v) (o.zip c)).getD _ 0 = _
      cases i with
      | zero =>
        show (fill (z.set s v) (o.zip c)).getD s 0 = v
        rw [fill_out (fun p hp e => by
          have := (List.of_mem_zip (show (p.1, p.2) ∈ o.zip c from hp)).1
          rw [e] at this; exact hn'.1 this), List.getD_eq_getElem?_getD, List.getElem?_set_self (hz s (by simp))]; rfl
      | succ i =>
        exact ih hn'.2 (z := z.set s v) (fun t ht => by rw [List.length_set]; exact hz t (List.mem_cons_of_mem _ ht)) (by simpa using hl) i (by simpa using hi)

/-- All that is known of the lengths. -/
structure PackOK (ws : List Int) (L : Nat) (q : Nat → Nat) : Prop where
  at_ : ∀ i, i < (ordL ws).length → (packL ws L).getD ((ordL ws).getD i 0) 0 = q i
  out : ∀ s, ¬ 0 < ws.getD s 0 → (packL ws L).getD s 0 = 0
  pos : ∀ i, i < (ordL ws).length → 1 ≤ q i ∧ q i ≤ L
  fall : ∀ i j, i ≤ j → j < (ordL ws).length → q j ≤ q i
  full : 2 ≤ (ordL ws).length → SS (fun i => 2 ^ (L - q i)) (ordL ws).length = 2 ^ L
  least : ∀ l : Nat → Nat, (∀ i, i < (ordL ws).length → 1 ≤ l i ∧ l i ≤ L) → SS (fun i => 2 ^ (L - l i)) (ordL ws).length ≤ 2 ^ L →
    SS (fun i => (lwL ws).getD i 0 * q i) (ordL ws).length ≤ SS (fun i => (lwL ws).getD i 0 * l i) (ordL ws).length
theorem packOK (ws : List Int) {L : Nat} (hL : 1 ≤ L) (h2 : (ordL ws).length ≤ 2 ^ L) : ∃ q, PackOK ws L q := by
  have hlw := lwL_length ws
  rcases (show (ordL ws).length = 0 ∨ (ordL ws).length = 1 ∨ 2 ≤ (ordL ws).length by omega) with h | h | h
  · have hp : packL ws L = List.replicate ws.length 0 := by unfold packL; rw [if_pos h]
    refine ⟨fun _ => 1, ⟨fun i hi => by omega, fun s _ => ?_, fun i hi => by omega, fun i j _ hj => by omega, fun h3 => by omega, fun l _ _ => by rw [h]; exact Nat.le_refl _⟩⟩
    rw [hp, List.getD_eq_getElem?_getD, List.getElem?_replicate]; split <;> rfl
  · have hp : packL ws L = (List.replicate ws.length 0).set ((ordL ws).getD 0 0) 1 := by unfold packL; rw [if_neg (by omega), if_pos h]
    have hg := ord_get (ws := ws) (i := 0) (by omega)
    refine ⟨fun _ => 1, ⟨fun i hi => ?_, fun s hs => ?_, fun i hi => ⟨by omega, hL⟩, fun i j _ hj => by omega, fun h3 => by omega, fun l hl _ => ?_⟩⟩
    · obtain rfl : i = 0 := by omega
      rw [hp, List.getD_eq_getElem?_getD, List.getElem?_set_self (by simpa using hg.1)]; rfl
    · rw [hp, List.getD_eq_getElem?_getD, List.getElem?_set_ne (fun e => hs (by rw [← e]; exact hg.2)), List.getElem?_replicate]; split <;> rfl
    · exact SS_le fun i hi => Nat.mul_le_mul_left _ (hl i hi).1
  · have hp : packL ws L = fill (List.replicate ws.length 0) ((ordL ws).zip (cntL (lwL ws) L)) := by unfold packL; rw [if_neg (by omega), if_neg (by omega)]
    have hs := lwL_sorted ws
    have h2' : (lwL ws).length ≤ 2 ^ L := by rw [hlw]; exact h2
    have h' : 2 ≤ (lwL ws).length := by omega
    refine ⟨fun i => (cntL (lwL ws) L).getD i 0, ⟨fun i hi => ?_, fun s hs' => ?_, fun i hi => ⟨cnt_pos hs h2' hL h' (by omega), cnt_limit i⟩, fun i j hij _ => cnt_fall hij, fun _ => ?_, fun l hl hr => ?_⟩⟩
    · rw [hp]
      exact fill_in (ord_nodup ws) (fun s hs => by have := (ordL_lt hs).1; simpa using this) (by rw [cntL_length, hlw]) i hi
    · rw [hp, fill_out (fun p hp e => by
        have := (List.of_mem_zip (show (p.1, p.2) ∈ (ordL ws).zip (cntL (lwL ws) L) from hp)).1
        rw [e] at this; exact hs' (ordL_lt this).2), List.getD_eq_getElem?_getD, List.getElem?_replicate]; split <;> rfl
    · have := kraft hs h2' hL h'
      rwa [hlw] at this
    · have := cnt_least hs h2' hL h' l (fun i hi => (hl i (by omega)).2) (by rw [hlw]; exact hr)
      rwa [hlw] at this
#print axioms packOK
end Go.Proofs.Ytggffiikfelbjaa
