/- A string of bits, as it came in. -/
import Derived.Test.YtggffiikfelbjaaLawBase
namespace Go.Proofs.Ytggffiikfelbjaa
open Go.ChangeShapes Go.WideShapes Go.ChangeAt Go.RowKit Go.Joins

set_option maxRecDepth 100000 in
theorem open_bstr {H : Type} {enc : TypeId × Value → H} {W : World} {base : Nat} {sp : Nat → Bool} {held : Bool} {r : Reach} {b0 : Nat} {v : Value} {d : DataW H} {p : List MemPlace} (hv : Value.okWide Try.prog W r b0 35 v) (h : DataW.Trod enc Try.prog W base sp held 35 v d p) :
    ∃ (s : ByteArray) (n : Int), v = .agg #[.string s, .int .i64 n] ∧ s.size ≤ 9223372036854775807 ∧ I64 n := by
  obtain ⟨c0, c1, y0, y1, m, rfl, rfl, rfl, hy0, hy1⟩ := open_agg2 Try.underlying35 (by kernel_rfl) (by kernel_rfl) hv h
  obtain ⟨s, e0, rfl, ws⟩ := DataW.trod_string Try.underlying9 hy0
  obtain ⟨n, e1, rfl, wn⟩ := DataW.trod_int Try.underlying3 hy1
  simp at e0 e1
  subst e0 e1
  exact ⟨s, n, rfl, by unfold maxLen at ws; omega, wf_i64 wn⟩
#print axioms open_bstr
end Go.Proofs.Ytggffiikfelbjaa
