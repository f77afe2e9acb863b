/- The laid variables of the rows of chapter 29: a world that meets them (the walks want none of them). -/
import Derived.Test.YtmbonieeapbpoaaGreatDoorRows
import Derived.Test.YtmbonieeapbpoaaGreatDoorLawBase
import Derived.Lib.LaidTab
import Derived.Lay
import Derived.Shelf.Vars
import Derived.Stop.LaidTwo
import Derived.Stop.Joined
import Derived.LaidLaws
import Derived.LaidHandle
namespace Go.Proofs.YtmbonieeapbpoaaGreatDoor
open Go.ChangeShapes Go.WideShapes Go.RowKit

/-- What the rows list. -/
def laidW : List (String × DataW Unit) := Rows.worldTellsUptoRow.laid
/-- Without the type's handle. -/
def laidWG : List (String × DataW Unit) := laidW.filter fun x => x.2.handleName?.isNone
noncomputable def baseW (os : Os) : World :=
  let w0 := World.holding Tryz.prog os ⟨#[], #[], []⟩
  { w0 with heap := w0.heap.modify 1 fun
      | .cells _ t frozen => .cells #[.iface 265 (.agg #[.pointer (some ⟨8, 98, none⟩)])] t frozen
      | o => o }
noncomputable def laidWorldW (os : Os) : World := (baseW os).layVars Tryz.prog laidWG
set_option maxRecDepth 100000 in
theorem fitsW (os : Os) : (baseW os).layFits Tryz.prog laidWG [] = true := by kernel_rfl
set_option maxRecDepth 100000 in
theorem ifacesW (os : Os) : (baseW os).layIfaces Tryz.prog laidWG (laidWorldW os) = true := by kernel_rfl
set_option maxRecDepth 100000 in
theorem handlesW (os : Os) (args : Array Value) : (laidW.filter fun x => x.2.handleName?.isSome).all (handleAtB Tryz.prog ((laidWorldW os).forCall (fun _ _ => 0) ⟨#[], args, []⟩).memory) = true := by kernel_rfl
theorem laidWorldW_met (os : Os) (args : Array Value) : laidMetH Tryz.prog laidW ((laidWorldW os).forCall (fun _ _ => 0) ⟨#[], args, []⟩).memory := by
  refine laidMetH_of_parts ?_ (handlesW os args)
  show laidMet Tryz.prog laidWG _
  have e1 : (laidWG.filter fun x => (laidWG.map (·.1)).contains x.1) = laidWG := List.filter_eq_self.2 fun x hx => List.contains_iff_mem.2 (List.mem_map.2 ⟨x, hx, rfl⟩)
  have e2 : (laidWG.filter fun x => !(laidWG.map (·.1)).contains x.1) = [] := List.filter_eq_nil_iff.2 fun x hx => by rw [List.contains_iff_mem.2 (List.mem_map.2 ⟨x, hx, rfl⟩)]; simp
  have h : laidMet Tryz.prog laidWG (laidWorldW os) := laidMet_layVars (w0 := baseW os) (laidWG.map (·.1)) [] (by rw [e1]; rfl) (by rw [e1]; exact fitsW os) (by rw [e1]; exact ifacesW os) (by rw [e2]; exact LaidIn.none)
  exact h.of_heap (by simp [World.memory, World.forCall, Input.heap])
theorem laidWorldW_os (os : Os) : (laidWorldW os).os = os := (World.layVars_os _ _ _).trans rfl
#print axioms laidWorldW_met
end Go.Proofs.YtmbonieeapbpoaaGreatDoor
