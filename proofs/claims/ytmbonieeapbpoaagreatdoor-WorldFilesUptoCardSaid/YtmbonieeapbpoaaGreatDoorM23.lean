/- Lemmas for the row: WldP. -/
import Derived.Test.YtmbonieeapbpoaaGreatDoorM01
import Derived.Test.YtmbonieeapbpoaaGreatDoorM03
import Derived.Test.YtmbonieeapbpoaaGreatDoorM16
set_option linter.unusedVariables false
set_option linter.unusedSimpArgs false
/- A world, plainly: what the functions of 'world' make of it. No program in sight. -/
namespace Go.Proofs.YtmbonieeapbpoaaGreatDoor
open Go.RowKit

def mayB (s : ByteArray) : Bool := namedB s && decide (byt s 0 ≠ 61) && decide (byt s 0 ≠ 126) && decide (byt s (s.size - 1) ≠ 0)
def budgetE (n : Int) : Int := if n < 24 then 9 else if 256 < n then 1 else 0
def worldE (d : Dsk) (budget : Int) : Int := if checkB d && decide (24 ≤ budget) && decide (budget ≤ 256) then 0 else 2
/-- Users' names, in order. -/
def namesD (d : Dsk) : List ByteArray := (d.exts.map Ext.nm).filter mayB
def filesW (d : Dsk) (budget : Int) : List ByteArray × Int := if worldE d budget = 0 then (namesD d, 0) else ([], 2)
def makeW (size n : Int) : Dsk × Int × Int := if (makeD size).2 ≠ 0 then (zeroD, 0, (makeD size).2) else if budgetE n ≠ 0 then (zeroD, 0, budgetE n) else ((makeD size).1, n, 0)
/-- A disk is right, as the document says it. -/
structure RightR (d : Dsk) : Prop where
  size : 0 ≤ d.size ∧ d.size ≤ 16384
  exts : d.exts.length ≤ 16384
  waits : d.waits.length ≤ 16384
  fuse : -1 ≤ d.fuse
  each : ∀ i x, d.exts[i]? = some x → namedB x.nm = true ∧ (∀ y, 0 < i → d.exts[i - 1]? = some y → sless y.nm x.nm = true) ∧ 0 < x.dt.size ∧ x.dt.size % 64 = 0 ∧ (usedE (d.exts.take (i + 1)) : Int) ≤ d.size
  wait : ∀ w ∈ d.waits, waitP d.exts w
theorem used_take_le (l : List Ext) (k : Nat) : usedE (l.take k) ≤ usedE l := by
  conv => rhs; rw [← List.take_append_drop k l, usedE_app]
  omega
theorem rise_of_next : ∀ {l : List Ext}, (∀ i x y, l[i]? = some x → l[i + 1]? = some y → sless x.nm y.nm = true) → Rise l := by
  intro l
  induction l with
  | nil => intro _; trivial
  | cons x l ih =>
    intro h
    have hr := ih fun i a b ha hb => h (i + 1) a b (by simpa using ha) (by simpa using hb)
    refine ⟨fun y hy => ?_, hr⟩
    cases l with
    | nil => cases hy
    | cons z l =>
      have h0 := h 0 x z rfl rfl
      rcases List.mem_cons.1 hy with rfl | hy
      · exact h0
      · exact sless_trans h0 (hr.1 y hy)
theorem secs_pos {x : Ext} (h1 : 0 < x.dt.size) (h2 : x.dt.size % 64 = 0) : 1 ≤ secsE x := by unfold secsE; omega
theorem length_used : ∀ {l : List Ext}, (∀ x ∈ l, extOK x) → l.length ≤ usedE l := by
  intro l
  induction l with
  | nil => intro _; exact Nat.zero_le _
  | cons x l ih =>
    intro h
    have h1 := ih fun y hy => h y (List.mem_cons_of_mem _ hy)
    obtain ⟨_, h2, h3⟩ := h x (List.mem_cons_self ..)
    have := secs_pos h2 h3
    rw [usedE_cons, List.length_cons]
    omega
theorem rightR_iff {d : Dsk} : RightR d ↔ checkB d = true := by
  rw [checkB_iff]
  constructor
  · intro h
    have hx : ∀ x ∈ d.exts, extOK x := fun x hx => by
      obtain ⟨i, hi⟩ := List.mem_iff_getElem?.1 hx
      obtain ⟨e1, _, e2, e3, _⟩ := h.each i x hi
      exact ⟨e1, e2, e3⟩
    refine ⟨h.size.1, h.size.2, h.waits, h.fuse, hx, rise_of_next fun i x y hx hy => (h.each (i + 1) y hy).2.1 x (by omega) (by simpa using hx), ?_, h.wait⟩
    rcases Nat.eq_zero_or_pos d.exts.length with e | e
    · rw [List.eq_nil_of_length_eq_zero e]
      have := h.size.1
      simpa [usedE] using this
    · obtain ⟨x, hx⟩ : ∃ x, d.exts[d.exts.length - 1]? = some x := ⟨_, List.getElem?_eq_getElem (by omega)⟩
      have := (h.each _ x hx).2.2.2.2
      rwa [List.take_of_length_le (by omega)] at this
  · intro h
    have hl := length_used h.exts
    have hu := h.used
    have h1 := h.size1
    refine ⟨⟨h.size0, h.size1⟩, by omega, h.nwaits, h.fuse, fun i x hi => ?_, h.waits⟩
    obtain ⟨e1, e2, e3⟩ := h.exts x (List.mem_of_getElem? hi)
    have := used_take_le d.exts (i + 1)
    exact ⟨e1, fun y h0 hy => h.rise.get hy hi (by omega), e2, e3, by omega⟩
end Go.Proofs.YtmbonieeapbpoaaGreatDoor
