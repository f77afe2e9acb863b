/- Lemmas for the row: FrW. -/
import Derived.Test.YtahnnebpadbopaaGreatDoorM04
import Derived.Test.YtahnnebpadbopaaGreatDoorM16
set_option linter.unusedVariables false
/- Steps in memory: words for the walks. No program in sight but for the numbers of types. -/
namespace Go.Proofs.YtahnnebpadbopaaGreatDoor
open Go.RowKit

/-- A step's cells, beside what holds its last list. -/
def stpC (s : Stp) (kv : Value) : List Value := [.int .u8 (s.kind : Nat), .string s.nm, .string s.to_, .string s.tx, .int .i64 s.n, kv]
def stpV (s : Stp) (kv : Value) : Value := .agg #[.int .u8 (s.kind : Nat), .string s.nm, .string s.to_, .string s.tx, .int .i64 s.n, kv]
def flatS (l : List (Stp × Value)) : List Value := l.flatMap fun x => stpC x.1 x.2
theorem flatS_length (l : List (Stp × Value)) : (flatS l).length = l.length * 6 := by
  induction l with
  | nil => rfl
  | cons x l ih => unfold flatS at ih ⊢; rw [List.flatMap_cons, List.length_append, ih]; simp [stpC]; omega
theorem flatS_app (l m : List (Stp × Value)) : flatS (l ++ m) = flatS l ++ flatS m := List.flatMap_append
/-- A list of bools that is read. -/
def KpR (w : World) (B : Nat) (kv : Value) (l : List Bool) : Prop := ∃ A c, kv = .slice A l.length c ∧ Rd w B A (l.map .bool)
/-- A list of bools in a row of its own. -/
def KpO (w : World) (base : Nat) (kv : Value) (l : List Bool) : Prop := w.ownsRow base 4 1 kv l.length (l.map .bool)
theorem KpO.rd {w : World} {base : Nat} {kv : Value} {l : List Bool} (h : KpO w base kv l) : KpR w w.heap.size kv l := by
  obtain ⟨A, c, rfl⟩ := own_formk h
  exact ⟨A, c, rfl, own_rdk h⟩
theorem KpR.keep {w w' : World} {B : Nat} {kv : Value} {l : List Bool} (h : KpR w B kv l) (hk : ∀ p : Addr, p.block < B → w'.cell? p = w.cell? p) : KpR w' B kv l := by
  obtain ⟨A, c, e, hr⟩ := h
  exact ⟨A, c, e, hr.keep hk⟩
theorem KpR.below {w w' : World} {B : Nat} {kv : Value} {l : List Bool} (h : KpR w B kv l) (hb : Below B w w') : KpR w' B kv l := h.keep fun _ hp => hb.cell hp
theorem KpR.more {w : World} {B B' : Nat} {kv : Value} {l : List Bool} (h : KpR w B kv l) (hB : B ≤ B') : KpR w B' kv l := by
  obtain ⟨A, c, e, hr⟩ := h
  exact ⟨A, c, e, hr.more hB⟩
/-- A list of steps that is read. -/
def StsR (w : World) (B : Nat) (A : Option Addr) (l : List Stp) : Prop := ∃ kv : List Value, kv.length = l.length ∧ Rd w B A (flatS (l.zip kv)) ∧ ∀ (i : Nat) (s : Stp) (v : Value), l[i]? = some s → kv[i]? = some v → KpR w B v s.keep
theorem StsR.keep {w w' : World} {B : Nat} {A : Option Addr} {l : List Stp} (h : StsR w B A l) (hk : ∀ p : Addr, p.block < B → w'.cell? p = w.cell? p) : StsR w' B A l := by
  obtain ⟨kv, h1, h2, h3⟩ := h
  exact ⟨kv, h1, h2.keep hk, fun i s v hs hv => (h3 i s v hs hv).keep hk⟩
theorem StsR.below {w w' : World} {B : Nat} {A : Option Addr} {l : List Stp} (h : StsR w B A l) (hb : Below B w w') : StsR w' B A l := h.keep fun _ hp => hb.cell hp
theorem StsR.more {w : World} {B B' : Nat} {A : Option Addr} {l : List Stp} (h : StsR w B A l) (hB : B ≤ B') : StsR w B' A l := by
  obtain ⟨kv, h1, h2, h3⟩ := h
  exact ⟨kv, h1, h2.more hB, fun i s v hs hv => (h3 i s v hs hv).more hB⟩
theorem flatS_get {l : List (Stp × Value)} {k : Nat} {x : Stp × Value} (h : l[k]? = some x) : ∀ j, j < 6 → (flatS l)[6 * k + j]? = (stpC x.1 x.2)[j]? :=
  flat_get (f := fun x : Stp × Value => stpC x.1 x.2) (fun _ => rfl) h
/-- The cells of a step in a list. -/
theorem stp_cells {w : World} {B : Nat} {A : Option Addr} {l : List Stp} (h : StsR w B A l) {k : Nat} {s : Stp} (hs : l[k]? = some s) : ∃ b o kv, A = some ⟨b, o, none⟩ ∧ b < B ∧ KpR w B kv s.keep ∧ w.cell? ⟨b, o + k * 6, none⟩ = some (.int .u8 (s.kind : Nat)) ∧ w.cell? ⟨b, o + k * 6 + 1, none⟩ = some (.string s.nm) ∧ w.cell? ⟨b, o + k * 6 + 2, none⟩ = some (.string s.to_) ∧ w.cell? ⟨b, o + k * 6 + 3, none⟩ = some (.string s.tx) ∧ w.cell? ⟨b, o + k * 6 + 4, none⟩ = some (.int .i64 s.n) ∧ w.cell? ⟨b, o + k * 6 + 5, none⟩ = some kv := by
  obtain ⟨kvs, h1, h2, h3⟩ := h
  have hk : k < l.length := (List.getElem?_eq_some_iff.1 hs).1
  obtain ⟨v, hv⟩ : ∃ v, kvs[k]? = some v := ⟨kvs[k]'(by omega), List.getElem?_eq_getElem (by omega)⟩
  have hz : (l.zip kvs)[k]? = some (s, v) := by
    rw [List.getElem?_zip_eq_some]; exact ⟨hs, hv⟩
  have g := fun j (hj : j < 6) (u : Value) (hu : (stpC s v)[j]? = some u) => h2 (6 * k + j) u ((flatS_get hz j hj).trans hu)
  obtain ⟨b, o, rfl, hb, c0⟩ := g 0 (by omega) _ rfl
  have g2 := fun j (hj : j < 6) (u : Value) (hu : (stpC s v)[j]? = some u) => show w.cell? ⟨b, o + k * 6 + j, none⟩ = some u from by
    obtain ⟨b2, o2, e, _, hc⟩ := g j hj u hu
    simp only [Option.some.injEq, Addr.mk.injEq, and_true] at e
    obtain ⟨rfl, rfl⟩ := e
    rwa [show o + (6 * k + j) = o + k * 6 + j by omega] at hc
  exact ⟨b, o, v, rfl, hb, h3 k s v hs hv, g2 0 (by omega) _ rfl, g2 1 (by omega) _ rfl, g2 2 (by omega) _ rfl, g2 3 (by omega) _ rfl, g2 4 (by omega) _ rfl, g2 5 (by omega) _ rfl⟩
/-- A list of steps in a row of its own, the lists in rows of their own. -/
def StsO (w : World) (base : Nat) (v : Value) (l : List Stp) : Prop := ∃ kv : List Value, kv.length = l.length ∧ w.ownsRow base 39 6 v l.length (flatS (l.zip kv)) ∧ ∀ (i : Nat) (s : Stp) (u : Value), l[i]? = some s → kv[i]? = some u → KpO w base u s.keep
theorem StsO.rd {w : World} {base : Nat} {v : Value} {l : List Stp} (h : StsO w base v l) : ∃ A c, v = .slice A l.length c ∧ StsR w w.heap.size A l := by
  obtain ⟨kv, h1, h2, h3⟩ := h
  obtain ⟨A, c, rfl⟩ := own_formk h2
  exact ⟨A, c, rfl, kv, h1, own_rdk h2, fun i s u hs hu => (h3 i s u hs hu).rd⟩
theorem StsO.keep {w w' : World} {base : Nat} {v : Value} {l : List Stp} (h : StsO w base v l) (hb : Below w.heap.size w w') : StsO w' base v l := by
  obtain ⟨kv, h1, h2, h3⟩ := h
  exact ⟨kv, h1, own_keep h2 hb, fun i s u hs hu => own_keep (h3 i s u hs hu) hb⟩
theorem StsO.nil (w : World) (base : Nat) : StsO w base (.slice none 0 0) [] := ⟨[], rfl, World.ownsRow_nil _ _ _ _, fun i s u hs => by simp at hs⟩
/-- One more. -/
theorem StsO.put {w w' : World} {base : Nat} {v v' kv : Value} {l : List Stp} {s : Stp} {kvs : List Value} (h1 : kvs.length = l.length) (h2 : w.ownsRow base 39 6 v l.length (flatS (l.zip kvs))) (h3 : ∀ (i : Nat) (s : Stp) (u : Value), l[i]? = some s → kvs[i]? = some u → KpO w base u s.keep) (hk : KpO w base kv s.keep)
    (ho : w'.ownsRow base 39 6 v' (l.length + 1) (flatS (l.zip kvs) ++ stpC s kv)) (hg : w.grownBy w' v.ownBlock) : StsO w' base v' (l ++ [s]) := by
  have hst : ∀ u (q : List Bool), KpO w base u q → KpO w' base u q := fun u q hu => own_fr hu (Fr.grown (S := fun g => v.ownBlock = some g) hg (fun g hg => hg)) (fun g hg he => by
    rcases h2.2 with ⟨rfl, _⟩ | ⟨g', cap, cur, rfl, _, hh, _⟩
    · simp [Value.ownBlock] at he
    · obtain rfl : g' = g := by simpa [Value.ownBlock] using he
      exact own_ne hu (show Bk w g' 39 cur from hh) (by decide) (by rw [hg]))
  refine ⟨kvs ++ [kv], by simp [h1], ?_, ?_⟩
  · rw [List.zip_append h1.symm, flatS_app, List.length_append]
    have : flatS ([s].zip [kv]) = stpC s kv := by simp [flatS]
    rw [this]
    exact ho
  · intro i t u ht hu
    rcases Nat.lt_trichotomy i l.length with hi | hi | hi
    · rw [List.getElem?_append_left hi] at ht
      rw [List.getElem?_append_left (by omega)] at hu
      exact hst _ _ (h3 i t u ht hu)
    · subst hi
      rw [List.getElem?_append_right (Nat.le_refl _)] at ht
      rw [List.getElem?_append_right (by omega)] at hu
      simp [h1] at ht hu
      subst ht hu
      exact hst _ _ hk
    · rw [List.getElem?_eq_none (by simp; omega)] at ht
      cases ht
end Go.Proofs.YtahnnebpadbopaaGreatDoor
