/- The tie of the listed variables: what is listed; the small facts. -/
import Derived.Test.YtmbonieeapbpoaaGreatDoorRows
import Derived.LaidByTextLater
import Derived.SevenTiedAt
namespace Go.Proofs.YtmbonieeapbpoaaGreatDoor
open Go
def laidT : List (String × DataW Unit) := [("unicode/utf8.acceptRanges", Rows.laid_unicode_utf8_acceptRanges), ("errors.errorType", Rows.laid_errors_errorType), ("wringer/press.errEnd", Rows.laid_wringer_press_errEnd), ("wringer/merge.errOrder", Rows.laid_wringer_merge_errOrder), ("wringer/table.errShort", Rows.laid_wringer_table_errShort), ("wringer/table.errCode", Rows.laid_wringer_table_errCode)]
def kindsT : List LaidKind := [.data, .handle, .sentinel, .sentinel, .sentinel, .sentinel]
theorem tie1 : Tryz.prog.worded (varsWordLater true) = true := by kernel_rfl
theorem tie2 : Tryz.prog.worded (varsWordLater !true) = false := by kernel_rfl
theorem tie3 : Tryz.prog.worded rootWordLater = true := by kernel_rfl
theorem tie4 : laidT.map (fun x => Tryz.prog.kindOfLater x.1) = kindsT.map some := by kernel_rfl
theorem tie5 : (Tryz.prog.funcNamed "gosem.cut.vars").isSome = true := by kernel_rfl
end Go.Proofs.YtmbonieeapbpoaaGreatDoor
