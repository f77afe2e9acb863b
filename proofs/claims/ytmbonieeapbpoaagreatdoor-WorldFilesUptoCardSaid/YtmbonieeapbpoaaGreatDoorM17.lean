/- Lemmas for the row: FrW. -/
import Derived.Test.YtmbonieeapbpoaaGreatDoorM04
import Derived.Test.YtmbonieeapbpoaaGreatDoorM16
set_option linter.unusedVariables false
set_option linter.unusedSimpArgs false
/- Steps in memory: words for the walks. No program in sight but for the numbers of types. -/
namespace Go.Proofs.YtmbonieeapbpoaaGreatDoor
open Go.RowKit

/-- A step's cells, beside what holds its last list. -/
def stpC (s : Stp) (kv : Value) : List Value := [.int .u8 (s.kind : Nat), .string s.nm, .string s.to_, .string s.tx, .int .i64 s.n, kv]
def flatS (l : List (Stp × Value)) : List Value := l.flatMap fun x => stpC x.1 x.2
/-- A list of bools that is read. -/
def KpR (w : World) (B : Nat) (kv : Value) (l : List Bool) : Prop := ∃ A c, kv = .slice A l.length c ∧ Rd w B A (l.map .bool)
theorem KpR.keep {w w' : World} {B : Nat} {kv : Value} {l : List Bool} (h : KpR w B kv l) (hk : ∀ p : Addr, p.block < B → w'.cell? p = w.cell? p) : KpR w' B kv l := by
  obtain ⟨A, c, e, hr⟩ := h
  exact ⟨A, c, e, hr.keep hk⟩
/-- A list of steps that is read. -/
def StsR (w : World) (B : Nat) (A : Option Addr) (l : List Stp) : Prop := ∃ kv : List Value, kv.length = l.length ∧ Rd w B A (flatS (l.zip kv)) ∧ ∀ (i : Nat) (s : Stp) (v : Value), l[i]? = some s → kv[i]? = some v → KpR w B v s.keep
theorem StsR.keep {w w' : World} {B : Nat} {A : Option Addr} {l : List Stp} (h : StsR w B A l) (hk : ∀ p : Addr, p.block < B → w'.cell? p = w.cell? p) : StsR w' B A l := by
  obtain ⟨kv, h1, h2, h3⟩ := h
  exact ⟨kv, h1, h2.keep hk, fun i s v hs hv => (h3 i s v hs hv).keep hk⟩
theorem StsR.below {w w' : World} {B : Nat} {A : Option Addr} {l : List Stp} (h : StsR w B A l) (hb : Below B w w') : StsR w' B A l := h.keep fun _ hp => hb.cell hp
theorem flatS_get {l : List (Stp × Value)} {k : Nat} {x : Stp × Value} (h : l[k]? = some x) : ∀ j, j < 6 → (flatS l)[6 * k + j]? = (stpC x.1 x.2)[j]? :=
  flat_get (f := fun x : Stp × Value => stpC x.1 x.2) (fun _ => rfl) h
/-- The cells of a step in a list. -/
theorem stp_cells {w : World} {B : Nat} {A : Option Addr} {l : List Stp} (h : StsR w B A l) {k : Nat} {s : Stp} (hs : l[k]? = some s) : ∃ b o kv, A = some ⟨b, o, none⟩ ∧ b < B ∧ KpR w B kv s.keep ∧ w.cell? ⟨b, o + k * 6, none⟩ = some (.int .u8 (s.kind : Nat)) ∧ w.cell? ⟨b, o + k * 6 + 1, none⟩ = some (.string s.nm) ∧ w.cell? ⟨b, o + k * 6 + 2, none⟩ = some (.string s.to_) ∧ w.cell? ⟨b, o + k * 6 + 3, none⟩ = some (.string s.tx) ∧ w.cell? ⟨b, o + k * 6 + 4, none⟩ = some (.int .i64 s.n) ∧ w.cell? ⟨b, o + k * 6 + 5, none⟩ = some kv := by
  obtain ⟨kvs, h1, h2, h3⟩ := h
  have hk : k < l.length := (List.getElem?_eq_some_iff.1 hs).1
  obtain ⟨v, hv⟩ : ∃ v, kvs[k]? = some v := ⟨kvs[k]'(by omega), List.getElem?_eq_getElem (by omega)⟩
  have hz : (l.zip kvs)[k]? = some (s, v) := by
    rw [List.getElem?_zip_eq_some]; exact ⟨hs, hv⟩
  have g := fun j (hj : j < 6) (u : Value) (hu : (stpC s v)[j]? = some u) => h2 (6 * k + j) u ((flatS_get hz j hj).trans hu)
  obtain ⟨b, o, rfl, hb, c0⟩ := g 0 (by omega) _ rfl
  have g2 := fun j (hj : j < 6) (u : Value) (hu : (stpC s v)[j]? = some u) => show w.cell? ⟨b, o + k * 6 + j, none⟩ = some u from by
    obtain ⟨b2, o2, e, _, hc⟩ := g j hj u hu
    simp only [Option.some.injEq, Addr.mk.injEq, and_true] at e
    obtain ⟨rfl, rfl⟩ := e
    rwa [show o + (6 * k + j) = o + k * 6 + j by omega] at hc
  exact ⟨b, o, v, rfl, hb, h3 k s v hs hv, g2 0 (by omega) _ rfl, g2 1 (by omega) _ rfl, g2 2 (by omega) _ rfl, g2 3 (by omega) _ rfl, g2 4 (by omega) _ rfl, g2 5 (by omega) _ rfl⟩
end Go.Proofs.YtmbonieeapbpoaaGreatDoor
