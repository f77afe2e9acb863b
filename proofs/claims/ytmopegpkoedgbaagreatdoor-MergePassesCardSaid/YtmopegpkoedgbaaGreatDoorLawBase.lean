/- What the laws' rows hand over: slices of integers as they came in. -/
import Derived.Test.YtmopegpkoedgbaaGreatDoorM01
import Derived.ProofKit
import Derived.OpenShut
import Derived.ShutString
import Derived.ChangeOld
import Derived.Lib.SmallJoins
namespace Go.Proofs.YtmopegpkoedgbaaGreatDoor
open Go.RowKit

/-- A slice of integers that came in. -/
def IsRow (k : IntKind) (w : World) (a : Option Addr) (len cap : Nat) (zs : List Int) : Prop :=
  (a = none ∧ len = 0 ∧ cap = 0 ∧ zs = []) ∨
  ∃ x, a = some x ∧ len ≤ cap ∧ cap ≤ maxLen ∧ zs.length = cap ∧ (∀ i, i < zs.length → w.cell? (x.add i) = some (.int k (zs.getD i 0))) ∧ ∀ n ∈ zs, (Lit.int k n).wf = true
/-- Its elements. -/
theorem IsRow.reads {k : IntKind} {w : World} {a : Option Addr} {len cap : Nat} {zs : List Int} (h : IsRow k w a len cap zs) :
    ∃ xs : List Int, xs.length = len ∧ Rd w w.heap.size a (xs.map (.int k)) ∧ len ≤ 9223372036854775807 ∧ ∀ x ∈ xs, (Lit.int k x).wf = true := by
  rcases h with ⟨rfl, rfl, rfl, rfl⟩ | ⟨ad, rfl, hl, hm, hz, hc, hw⟩
  · exact ⟨[], rfl, Rd.nil_, by omega, by simp⟩
  · refine ⟨zs.take len, by simp; omega, ?_, by unfold maxLen at hm; omega, fun x hx => hw x (List.mem_of_mem_take hx)⟩
    intro i u hu
    have hi : i < (zs.take len).length := by simpa using (List.getElem?_eq_some_iff.1 hu).1
    have hi : i < zs.length := by rw [List.length_take] at hi; omega
    obtain ⟨b, off, rfl, hcell⟩ := Go.ints_at hc (by omega)
    refine ⟨b, off, rfl, World.block_lt_of_cell? w ⟨b, off + i, none⟩ (hcell i hi), ?_⟩
    rw [hcell i hi]
    rw [List.getElem?_map, List.getElem?_take] at hu
    split at hu
    · rw [List.getElem?_eq_getElem hi] at hu
      simp at hu
      rw [← hu]; simp [hi]
    · cases hu
theorem wf_u64 {x : Int} (h : (Lit.int .u64 x).wf = true) : U64 x := by
  simp [Lit.wf, IntKind.min, IntKind.max, IntKind.signed, IntKind.bits] at h
  exact ⟨by omega, by omega⟩
theorem wf_i64 {x : Int} (h : (Lit.int .i64 x).wf = true) : I64 x := by
  simp [Lit.wf, IntKind.min, IntKind.max, IntKind.signed, IntKind.bits] at h
  exact ⟨by omega, by omega⟩
theorem own : ownKnob Tryz.prog.godebug = none := by kernel_rfl
theorem laidOut : laidOutB Tryz.prog = true := by kernel_rfl
#print axioms IsRow.reads
end Go.Proofs.YtmopegpkoedgbaaGreatDoor
