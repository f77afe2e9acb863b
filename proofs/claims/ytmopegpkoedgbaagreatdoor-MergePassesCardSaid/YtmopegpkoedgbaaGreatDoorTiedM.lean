/- The four laid variables of the merge's rows: what a world that meets them gives the walks; the witness. -/
import Derived.Test.YtmopegpkoedgbaaGreatDoorM21
import Derived.Stop.LaidErr
import Derived.Stop.LaidTwo
import Derived.Stop.Joined
import Derived.LaidLaws
import Derived.LaidHandle
import Derived.Lay
namespace Go.Proofs.YtmopegpkoedgbaaGreatDoor
open Go.ChangeShapes Go.WideShapes Go.RowKit

theorem gType : Tryz.prog.globalNamed "errors.errorType" = some 1 := by kernel_rfl
theorem gOrd : Tryz.prog.globalNamed "wringer/merge.errOrder" = some 0 := by kernel_rfl
theorem gOrdType : (Tryz.prog.globals[0]?).map (·.type) = some 71 := by kernel_rfl
theorem cellsErr : Tryz.prog.cellsOf 342 = 1 := by kernel_rfl
theorem cellsStr : Tryz.prog.cellsOf 9 = 1 := by kernel_rfl
theorem starErr : "*" ++ "errors.errorString" = "*errors.errorString" := by decide
theorem rowErr (u : TypeId) (h : Tryz.prog.typeName? 3 u = some "*errors.errorString") : u = 324 :=
  typeName_ptr_named (nm := "errors.errorString") (by rw [starErr]; kernel_rfl) (by kernel_rfl) (by decide) u (by rw [starErr]; exact h)
theorem rtT : (Tryz.prog.cutTypes.find? (·.1 == "internal/reflectlite.rtype")).map (·.2) = some 244 := by kernel_rfl
theorem oneRow : ((List.range Tryz.prog.types.size).filter fun t => Tryz.prog.rowNamed t [101, 114, 114, 111, 114]) = [71] := by kernel_rfl
/-- What the rows list. -/
def laidM : List (String × DataW Unit) := [("unicode/utf8.acceptRanges", Rows.laid_unicode_utf8_acceptRanges), ("errors.errorType", Rows.laid_errors_errorType), ("wringer/merge.errOrder", Rows.laid_wringer_merge_errOrder), ("unicode/utf8.first", Rows.laid_unicode_utf8_first)]
/-- Without the type's handle. -/
def laidN : List (String × DataW Unit) := [("unicode/utf8.acceptRanges", Rows.laid_unicode_utf8_acceptRanges), ("wringer/merge.errOrder", Rows.laid_wringer_merge_errOrder), ("unicode/utf8.first", Rows.laid_unicode_utf8_first)]
def laidE : List (String × DataW Unit) := [("errors.errorType", Rows.laid_errors_errorType)]
theorem filterM : (laidM.filter fun x => x.2.handleName?.isNone) = laidN := by kernel_rfl
theorem filterE : (laidM.filter fun x => x.2.handleName?.isSome) = laidE := by kernel_rfl
theorem parts_of_laid {W : World} (h : laidMetH Tryz.prog laidM W) : laidMet Tryz.prog laidN W ∧ handlesMet Tryz.prog laidE W := by
  have h' := h
  unfold laidMetH at h'
  rw [filterM, filterE] at h'
  exact h'
theorem laidE_of_handles {W : World} (h : handlesMet Tryz.prog laidE W) : LaidE W := by
  obtain ⟨name, u, ty, e1, e2, e3, e4, e5⟩ := h _ (List.mem_singleton.2 rfl)
  have en : name = [101, 114, 114, 111, 114] := (Option.some.inj e1).symm
  subst en
  obtain rfl := Option.some.inj (rtT.symm.trans e2)
  have hm : ty ∈ (List.range Tryz.prog.types.size).filter fun t => Tryz.prog.rowNamed t [101, 114, 114, 111, 114] := List.mem_filter.2 ⟨List.mem_range.2 e3, e4⟩
  rw [oneRow] at hm
  obtain rfl := List.mem_singleton.1 hm
  have hh : typeHandle Tryz.prog 71 = .pointer (some ⟨5, 71, none⟩) := by kernel_rfl
  rw [hh] at e5
  unfold LaidE
  simpa using World.var?_cell gType e5 0
theorem laidM_gives {W : World} (h : laidMetH Tryz.prog laidM W) : (∃ o, OrdAt W o) ∧ LaidE W := by
  obtain ⟨hd, he⟩ := parts_of_laid h
  refine ⟨?_, laidE_of_handles he⟩
  obtain ⟨a, s, hv, hc, hs, hz⟩ := laid_sentinel hd.tail gOrd gOrdType Tryz.underlying71 rowErr Tryz.underlying324 Tryz.underlying342 rfl rfl Tryz.underlying9 cellsErr cellsStr
  exact ⟨a, by unfold OrdAt; simpa using World.var?_cell gOrd hv 0⟩
noncomputable def baseM (os : Os) : World :=
  let w0 := World.holding Tryz.prog os ⟨#[], #[], []⟩
  { w0 with heap := w0.heap.modify 1 fun
      | .cells _ t frozen => .cells #[.iface 244 (.agg #[.pointer (some ⟨5, 71, none⟩)])] t frozen
      | o => o }
noncomputable def laidWorldM (os : Os) : World := (baseM os).layVars Tryz.prog laidN
set_option maxRecDepth 100000 in
theorem fitsM (os : Os) : (baseM os).layFits Tryz.prog laidN [] = true := by kernel_rfl
set_option maxRecDepth 100000 in
theorem ifacesM (os : Os) : (baseM os).layIfaces Tryz.prog laidN (laidWorldM os) = true := by kernel_rfl
set_option maxRecDepth 100000 in
theorem handlesM (os : Os) (args : Array Value) : (laidM.filter fun x => x.2.handleName?.isSome).all (handleAtB Tryz.prog ((laidWorldM os).forCall (fun _ _ => 0) ⟨#[], args, []⟩).memory) = true := by kernel_rfl
theorem laidWorldM_met (os : Os) (args : Array Value) : laidMetH Tryz.prog laidM ((laidWorldM os).forCall (fun _ _ => 0) ⟨#[], args, []⟩).memory := by
  refine laidMetH_of_parts ?_ (handlesM os args)
  rw [filterM]
  have e1 : (laidN.filter fun x => (laidN.map (·.1)).contains x.1) = laidN := List.filter_eq_self.2 fun x hx => List.contains_iff_mem.2 (List.mem_map.2 ⟨x, hx, rfl⟩)
  have e2 : (laidN.filter fun x => !(laidN.map (·.1)).contains x.1) = [] := List.filter_eq_nil_iff.2 fun x hx => by rw [List.contains_iff_mem.2 (List.mem_map.2 ⟨x, hx, rfl⟩)]; simp
  have h : laidMet Tryz.prog laidN (laidWorldM os) := laidMet_layVars (w0 := baseM os) (laidN.map (·.1)) [] (by rw [e1]; rfl) (by rw [e1]; exact fitsM os) (by rw [e1]; exact ifacesM os) (by rw [e2]; exact LaidIn.none)
  exact h.of_heap (by simp [World.memory, World.forCall, Input.heap])
theorem laidWorldM_os (os : Os) : (laidWorldM os).os = os := (World.layVars_os _ _ _).trans rfl
#print axioms laidM_gives
#print axioms laidWorldM_met
end Go.Proofs.YtmopegpkoedgbaaGreatDoor
