/- Packages of coins, plainly: a level is leaves and packages, merged by weight. No program in sight. -/
import Derived.Test.YtggffiikfelbjaaOrdPlain
namespace Go.Proofs.Ytggffiikfelbjaa
open Go.RowKit

/-- A leaf (its place among the leaves), or a package of two (leaf -1; the place of its first one in the level ahead). -/
structure It where
  w : Nat
  leaf : Int
  first : Nat
deriving DecidableEq
def itV (x : It) : List Value := [.int .u64 x.w, .int .i64 x.leaf, .int .i64 x.first]
def flatV (l : List It) : List Value := l.flatMap itV
theorem flatV_length (l : List It) : (flatV l).length = l.length * 3 := by
  unfold flatV
  induction l with
  | nil => rfl
  | cons x l ih => rw [List.flatMap_cons, List.length_append, ih, List.length_cons]; simp [itV]; omega
theorem flatV_append (a b : List It) : flatV (a ++ b) = flatV a ++ flatV b := by unfold flatV; rw [List.flatMap_append]
theorem flatV_get {l : List It} {j : Nat} {x : It} (h : l[j]? = some x) : (flatV l)[j * 3]? = some (.int .u64 x.w) ∧ (flatV l)[j * 3 + 1]? = some (.int .i64 x.leaf) ∧ (flatV l)[j * 3 + 2]? = some (.int .i64 x.first) := by
  obtain ⟨hj, rfl⟩ := List.getElem?_eq_some_iff.1 h
  have e : flatV l = flatV (l.take j) ++ (itV l[j] ++ flatV (l.drop (j + 1))) := by
    conv => lhs; rw [← List.take_append_drop j l, List.drop_eq_getElem_cons hj]
    rw [flatV_append]; rfl
  have hl : (flatV (l.take j)).length = j * 3 := by rw [flatV_length, List.length_take]; congr 1; omega
  rw [e]
  refine ⟨?_, ?_, ?_⟩
  · rw [List.getElem?_append_right (by omega), hl, Nat.sub_self]; rfl
  · rw [List.getElem?_append_right (by omega), hl, Nat.add_sub_cancel_left]; rfl
  · rw [List.getElem?_append_right (by omega), hl, Nat.add_sub_cancel_left]; rfl
def insM (l : It) (f : List It → List It) : List It → List It
  | [] => l :: f []
  | p :: ps => if l.w ≤ p.w then l :: f (p :: ps) else p :: insM l f ps
/-- Leaves and packages, merged; of alike ones leaves first. -/
def mrg : List It → List It → List It
  | [], ps => ps
  | l :: ls, ps => insM l (mrg ls) ps
theorem mrg_nil (ls : List It) : mrg ls [] = ls := by
  induction ls with
  | nil => rfl
  | cons l ls ih => rw [mrg, insM, ih]
theorem mrg_le {l p : It} {ls ps : List It} (h : l.w ≤ p.w) : mrg (l :: ls) (p :: ps) = l :: mrg ls (p :: ps) := by rw [mrg, insM, if_pos h]
theorem mrg_gt {l p : It} {ls ps : List It} (h : ¬ l.w ≤ p.w) : mrg (l :: ls) (p :: ps) = p :: mrg (l :: ls) ps := by rw [mrg, insM, if_neg h, mrg]
theorem mrg_length (ls ps : List It) : (mrg ls ps).length = ls.length + ps.length := by
  induction ls generalizing ps with
  | nil => rw [mrg]; simp
  | cons l ls ih =>
    induction ps with
    | nil => rw [mrg_nil]; simp
    | cons p ps ih2 =>
      by_cases h : l.w ≤ p.w
      · rw [mrg_le h, List.length_cons, ih]; simp; omega
      · rw [mrg_gt h, List.length_cons, ih2]; simp; omega
/-- The leaves from place k on. -/
def leafIts (k : Nat) : List Nat → List It
  | [] => []
  | w :: l => ⟨w, k, 0⟩ :: leafIts (k + 1) l
/-- The packages of a level, from place i on. -/
def pkgs (i : Nat) : List It → List It
  | a :: b :: r => ⟨a.w + b.w, -1, i⟩ :: pkgs (i + 2) r
  | _ => []
theorem leafIts_length (k : Nat) (l : List Nat) : (leafIts k l).length = l.length := by
  induction l generalizing k with
  | nil => rfl
  | cons w l ih => rw [leafIts, List.length_cons, ih, List.length_cons]
theorem pkgs_length : ∀ (n i : Nat) (l : List It), l.length ≤ n → (pkgs i l).length = l.length / 2 := by
  intro n
  induction n with
  | zero => intro i l h; have : l = [] := List.eq_nil_of_length_eq_zero (by omega); subst this; rfl
  | succ n ih =>
    intro i l h
    match l, h with
    | [], _ => rfl
    | [_], _ => simp [pkgs]
    | a :: b :: r, h => rw [pkgs, List.length_cons, ih _ r (by simp at h; omega)]; simp only [List.length_cons]; omega
/-- The level behind one. -/
def nxtL (lw : List Nat) (lv : List It) : List It := mrg (leafIts 0 lw) (pkgs 0 lv)
theorem nxtL_length (lw : List Nat) (lv : List It) : (nxtL lw lv).length = lw.length + lv.length / 2 := by
  unfold nxtL
  rw [mrg_length, leafIts_length, pkgs_length _ _ _ (Nat.le_refl _)]
/-- The weights, in order. -/
def lwL (ws : List Int) : List Nat := (ordL ws).map fun i => (ws.getD i 0).toNat
theorem lwL_length (ws : List Int) : (lwL ws).length = (ordL ws).length := by unfold lwL; rw [List.length_map]
/-- The levels, the last one first. -/
def lvlL (lw : List Nat) : Nat → List It
  | 0 => nxtL lw []
  | j + 1 => nxtL lw (lvlL lw j)
/-- All weights of a level are below a bound. -/
theorem mrg_mem {x : It} : ∀ {ls ps : List It}, x ∈ mrg ls ps → x ∈ ls ∨ x ∈ ps := by
  intro ls
  induction ls with
  | nil => intro ps h; rw [mrg] at h; exact .inr h
  | cons l ls ih =>
    intro ps
    induction ps with
    | nil => intro h; rw [mrg_nil] at h; exact .inl h
    | cons p ps ih2 =>
      intro h
      by_cases g : l.w ≤ p.w
      · rw [mrg_le g] at h
        rcases List.mem_cons.1 h with rfl | h
        · exact .inl (by simp)
        · rcases ih h with h | h
          · exact .inl (List.mem_cons_of_mem _ h)
          · exact .inr h
      · rw [mrg_gt g] at h
        rcases List.mem_cons.1 h with rfl | h
        · exact .inr (by simp)
        · rcases ih2 h with h | h
          · exact .inl h
          · exact .inr (List.mem_cons_of_mem _ h)
theorem leafIts_w {x : It} {k : Nat} {l : List Nat} (h : x ∈ leafIts k l) : x.w ∈ l := by
  induction l generalizing k with
  | nil => simp [leafIts] at h
  | cons w l ih =>
    rw [leafIts] at h
    rcases List.mem_cons.1 h with rfl | h
    · simp
    · exact List.mem_cons_of_mem _ (ih h)
theorem pkgs_w {B : Nat} : ∀ (n i : Nat) (l : List It), l.length ≤ n → (∀ x ∈ l, x.w ≤ B) → ∀ x ∈ pkgs i l, x.w ≤ 2 * B := by
  intro n
  induction n with
  | zero => intro i l h _; have : l = [] := List.eq_nil_of_length_eq_zero (by omega); subst this; intro x hx; simp [pkgs] at hx
  | succ n ih =>
    intro i l h hB
    match l, h, hB with
    | [], _, _ => intro x hx; simp [pkgs] at hx
    | [_], _, _ => intro x hx; simp [pkgs] at hx
    | a :: b :: r, h, hB =>
      intro x hx
      rw [pkgs] at hx
      rcases List.mem_cons.1 hx with rfl | hx
      · have h1 := hB a (by simp)
        have h2 := hB b (by simp)
        show a.w + b.w ≤ 2 * B
        omega
      · exact ih _ r (by simp at h; omega) (fun y hy => hB y (by simp [hy])) x hx
theorem nxtL_w {lw : List Nat} {lv : List It} {B : Nat} (h1 : ∀ x ∈ lw, x ≤ 2 * B) (h2 : ∀ x ∈ lv, x.w ≤ B) : ∀ x ∈ nxtL lw lv, x.w ≤ 2 * B := by
  intro x hx
  rcases mrg_mem hx with h | h
  · exact h1 _ (leafIts_w h)
  · exact pkgs_w _ _ lv (Nat.le_refl _) h2 x h
theorem lvlL_w {lw : List Nat} {B : Nat} (h : ∀ x ∈ lw, x ≤ B) (j : Nat) : ∀ x ∈ lvlL lw j, x.w ≤ B * 2 ^ (j + 1) := by
  induction j with
  | zero =>
    intro x hx
    have := nxtL_w (B := B) (fun x hx => by have := h x hx; omega) (lv := []) (by simp) x hx
    rw [Nat.pow_one]; omega
  | succ j ih =>
    intro x hx
    have h2 : 1 ≤ 2 ^ (j + 1) := Nat.one_le_two_pow
    have := nxtL_w (B := B * 2 ^ (j + 1)) (fun x hx => by
      have := h x hx
      have := Nat.le_mul_of_pos_right B (show 0 < 2 ^ (j + 1) by omega)
      omega) ih x hx
    rw [Nat.pow_succ]
    have e : B * (2 ^ (j + 1) * 2) = 2 * (B * 2 ^ (j + 1)) := by rw [← Nat.mul_assoc, Nat.mul_comm]
    rw [e]; exact this
theorem lvlL_length (lw : List Nat) (j : Nat) : (lvlL lw j).length ≤ 2 * lw.length := by
  induction j with
  | zero => rw [lvlL, nxtL_length]; simp; omega
  | succ j ih => rw [lvlL, nxtL_length]; omega
#print axioms lvlL_w
end Go.Proofs.Ytggffiikfelbjaa
