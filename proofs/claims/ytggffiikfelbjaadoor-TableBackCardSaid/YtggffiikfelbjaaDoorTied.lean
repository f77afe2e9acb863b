/- The two sentinels as the rows list them; a world that meets what the rows list. -/
import Derived.Test.YtggffiikfelbjaaDoorLawBstr
import Derived.Test.YtggffiikfelbjaaDoorTabJ
import Derived.Stop.LaidTwo
import Derived.Stop.Joined
import Derived.LaidLaws
namespace Go.Proofs.YtggffiikfelbjaaDoor
open Go.ChangeShapes Go.WideShapes Go.RowKit

theorem gShort : Tryd.prog.globalNamed "wringer/table.errShort" = some 0 := by kernel_rfl
theorem gCode : Tryd.prog.globalNamed "wringer/table.errCode" = some 1 := by kernel_rfl
theorem gShortType : (Tryd.prog.globals[0]?).map (·.type) = some 51 := by kernel_rfl
theorem gCodeType : (Tryd.prog.globals[1]?).map (·.type) = some 51 := by kernel_rfl
theorem cellsErr : Tryd.prog.cellsOf 106 = 1 := by kernel_rfl
theorem cellsStr : Tryd.prog.cellsOf 9 = 1 := by kernel_rfl
theorem starErr : "*" ++ "errors.errorString" = "*errors.errorString" := by decide
theorem rowErr (u : TypeId) (h : Tryd.prog.typeName? 3 u = some "*errors.errorString") : u = 81 :=
  typeName_ptr_named (nm := "errors.errorString") (by rw [starErr]; kernel_rfl) (by kernel_rfl) (by decide) u (by rw [starErr]; exact h)
/-- What the rows list. -/
def laidT : List (String × DataW Unit) := [("wringer/table.errShort", Rows.laid_wringer_table_errShort), ("wringer/table.errCode", Rows.laid_wringer_table_errCode)]
theorem sent2_of_laid {W : World} (h : laidMetH Tryd.prog laidT W) : ∃ q0 q1, Sent2 W q0 q1 := by
  have h' : laidMet Tryd.prog laidT W := h
  obtain ⟨a0, a1, s0, s1, c0, c1, t0, t1, hv0, hv1, hc0, hs0, hz0, hc1, hs1, hz1, hne, hb0, hb1⟩ := laid_sentinels2 h' gShort gShortType gCode gCodeType Tryd.underlying51 rowErr Tryd.underlying81 Tryd.underlying106 rfl rfl Tryd.underlying9 cellsErr cellsStr
  exact ⟨a0, a1, ⟨by simpa using World.var?_cell gShort hv0 0, by simpa using World.var?_cell gCode hv1 0⟩, hne, ⟨c0, t0, hb0⟩, ⟨c1, t1, hb1⟩⟩

abbrev shortS : ByteArray := { data := #[116, 104, 101, 32, 98, 105, 116, 115, 32, 101, 110, 100] }
abbrev codeS : ByteArray := { data := #[110, 111, 32, 116, 97, 98, 108, 101] }
noncomputable def lowT : Nat := (World.holding Tryd.prog default ⟨#[], #[], []⟩).heap.size
noncomputable def laidWorldT (os : Os) : World :=
  let w0 := World.holding Tryd.prog os ⟨#[.cells #[.string shortS] 106, .cells #[.string codeS] 106], #[], []⟩
  { w0 with heap := (w0.heap.modify 0 fun
      | .cells _ t frozen => .cells #[.iface 81 (.pointer (some ⟨lowT, 0, none⟩))] t frozen
      | o => o).modify 1 fun
      | .cells _ t frozen => .cells #[.iface 81 (.pointer (some ⟨lowT + 1, 0, none⟩))] t frozen
      | o => o }
theorem laidWorldT_met (os : Os) (args : Array Value) : laidMetH Tryd.prog laidT ((laidWorldT os).forCall (fun _ _ => 0) ⟨#[], args, []⟩).memory :=
  show laidMet Tryd.prog laidT _ from laidMet_of_run (ps := [.cell 0 0, .cell lowT 0, .cell 1 0, .cell (lowT + 1) 0]) 8 (by kernel_rfl) (by kernel_rfl) (by kernel_rfl)
#print axioms laidWorldT_met
end Go.Proofs.YtggffiikfelbjaaDoor
