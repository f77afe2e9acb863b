/- The symbols that have a weight, and their order: by weight, then by place. No program in sight. -/
import Derived.Test.YtggffiikfelbjaaSortH
namespace Go.Proofs.Ytggffiikfelbjaa
open Go.RowKit

/-- The symbols among the first k that have a weight. -/
def symK (ws : List Int) (k : Nat) : List Nat := (List.range k).filter fun i => decide (0 < ws.getD i 0)
def symL (ws : List Int) : List Nat := symK ws ws.length
/-- Behind all that are not heavier. -/
def putL (ws : List Int) (x : Nat) : List Nat → List Nat
  | [] => [x]
  | y :: l => if ws.getD x 0 < ws.getD y 0 then x :: y :: l else y :: putL ws x l
/-- The symbols in order. -/
def ordL (ws : List Int) : List Nat := (symL ws).foldl (fun l x => putL ws x l) []
theorem symK_step (ws : List Int) (k : Nat) : symK ws (k + 1) = symK ws k ++ (if 0 < ws.getD k 0 then [k] else []) := by
  unfold symK
  rw [List.range_succ, List.filter_append]
  congr 1
  by_cases h : 0 < ws.getD k 0
  · rw [if_pos h, List.filter_cons, if_pos (decide_eq_true h), List.filter_nil]
  · rw [if_neg h, List.filter_cons, if_neg (by rw [decide_eq_false h]; decide), List.filter_nil]
theorem symK_lt {ws : List Int} {k x : Nat} (h : x ∈ symK ws k) : x < k ∧ 0 < ws.getD x 0 := by
  unfold symK at h
  rw [List.mem_filter] at h
  exact ⟨List.mem_range.1 h.1, by simpa using h.2⟩
theorem symK_mem {ws : List Int} {k x : Nat} (hx : x < k) (h : 0 < ws.getD x 0) : x ∈ symK ws k := by
  unfold symK
  rw [List.mem_filter]
  exact ⟨List.mem_range.2 hx, by simpa using h⟩
theorem symK_sorted (ws : List Int) (k : Nat) : (symK ws k).Pairwise (fun x y => x < y) :=
  List.Pairwise.filter _ List.pairwise_lt_range
theorem symK_length (ws : List Int) (k : Nat) : (symK ws k).length ≤ k := by
  unfold symK
  exact Nat.le_trans (List.length_filter_le _ _) (by simp)
theorem putL_perm (ws : List Int) (x : Nat) (l : List Nat) : (putL ws x l).Perm (x :: l) := by
  induction l with
  | nil => exact List.Perm.refl _
  | cons y l ih =>
    rw [putL]
    split
    · exact List.Perm.refl _
    · exact (List.Perm.cons y ih).trans (List.Perm.swap x y l)
theorem putL_sorted {ws : List Int} {x : Nat} {l : List Nat} (h : l.Pairwise (Lx ws)) (hx : ∀ y ∈ l, y < x) : (putL ws x l).Pairwise (Lx ws) := by
  induction l with
  | nil => exact List.pairwise_singleton _ _
  | cons y l ih =>
    rw [List.pairwise_cons] at h
    have hy := hx y (by simp)
    rw [putL]
    split
    · rename_i hlt
      refine List.pairwise_cons.2 ⟨fun z hz => ?_, List.pairwise_cons.2 h⟩
      have hxy : Lx ws x y := .inl hlt
      rcases List.mem_cons.1 hz with rfl | hz
      · exact hxy
      · exact hxy.trans (h.1 z hz)
    · rename_i hlt
      refine List.pairwise_cons.2 ⟨fun z hz => ?_, ih h.2 (fun z hz => hx z (List.mem_cons_of_mem _ hz))⟩
      rcases List.mem_cons.1 ((putL_perm ws x l).subset hz) with rfl | hz
      · unfold Lx; omega
      · exact h.1 z hz
theorem foldl_put {ws : List Int} : ∀ (s l : List Nat), l.Pairwise (Lx ws) → s.Pairwise (fun x y => x < y) → (∀ x ∈ l, ∀ y ∈ s, x < y) → ((s.foldl (fun l x => putL ws x l) l).Perm (l ++ s) ∧ (s.foldl (fun l x => putL ws x l) l).Pairwise (Lx ws)) := by
  intro s
  induction s with
  | nil => intro l h _ _; exact ⟨by simp, h⟩
  | cons x s ih =>
    intro l h hs hl
    rw [List.pairwise_cons] at hs
    rw [List.foldl_cons]
    have hp := putL_perm ws x l
    obtain ⟨p, q⟩ := ih (putL ws x l) (putL_sorted h (fun y hy => hl y hy x (by simp))) hs.2 (fun z hz y hy => by
      rcases List.mem_cons.1 (hp.subset hz) with rfl | hz
      · exact hs.1 y hy
      · exact hl z hz y (List.mem_cons_of_mem _ hy))
    refine ⟨p.trans ?_, q⟩
    have := hp.append_right s
    exact this.trans (by simpa using List.perm_middle.symm)
theorem ordL_perm (ws : List Int) : (ordL ws).Perm (symL ws) := by
  have := (foldl_put (ws := ws) (symL ws) [] List.Pairwise.nil (symK_sorted ws _) (by simp)).1
  rwa [List.nil_append] at this
theorem ordL_sorted (ws : List Int) : (ordL ws).Pairwise (Lx ws) :=
  (foldl_put (ws := ws) (symL ws) [] List.Pairwise.nil (symK_sorted ws _) (by simp)).2
/-- There is one order alone. -/
theorem order_one {ws : List Int} : ∀ {l m : List Nat}, l.Perm m → l.Pairwise (Lx ws) → m.Pairwise (Lx ws) → l = m := by
  intro l
  induction l with
  | nil => intro m h _ _; exact (List.Perm.nil_eq h)
  | cons x l ih =>
    intro m h hl hm
    cases m with
    | nil => exact absurd h.length_eq (by simp)
    | cons y m =>
      rw [List.pairwise_cons] at hl hm
      have hxy : x = y := by
        rcases List.mem_cons.1 (h.subset (List.mem_cons_self)) with e | e
        · exact e
        · rcases List.mem_cons.1 (h.symm.subset (List.mem_cons_self)) with e2 | e2
          · exact e2.symm
          · exact absurd ((hm.1 x e).trans (hl.1 y e2)) Lx.irrefl
      subst hxy
      rw [ih ((List.perm_cons x).1 h) hl.2 hm.2]
theorem ordL_lt {ws : List Int} {x : Nat} (h : x ∈ ordL ws) : x < ws.length ∧ 0 < ws.getD x 0 := symK_lt ((ordL_perm ws).subset h)
theorem ordL_length (ws : List Int) : (ordL ws).length ≤ ws.length := by rw [(ordL_perm ws).length_eq]; exact symK_length _ _
#print axioms order_one
end Go.Proofs.Ytggffiikfelbjaa
