/- Lemmas for the row: TiedB. -/
import Derived.Test.YtcfnjpokfodmoaaGreatDoorM11
import Derived.Test.YtcfnjpokfodmoaaGreatDoorM12
import Derived.Test.YtcfnjpokfodmoaaGreatDoorM47
import Derived.LaidHandle
import Derived.LaidLaws
import Derived.Stop.Joined
import Derived.Stop.LaidTwo
set_option maxRecDepth 100000
set_option linter.unusedVariables false
namespace Go.Proofs.YtcfnjpokfodmoaaGreatDoor
open Go.ChangeShapes Go.WideShapes Go.RowKit
theorem gType:Tryz.prog.globalNamed "errors.errorType" = some 0:=by kernel_rfl
theorem gShort:Tryz.prog.globalNamed "wringer/table.errShort" = some 1:=by kernel_rfl
theorem gCode:Tryz.prog.globalNamed "wringer/table.errCode" = some 2:=by kernel_rfl
theorem gShortType:(Tryz.prog.globals[1]?).map (·.type) = some 64:=by kernel_rfl
theorem gCodeType:(Tryz.prog.globals[2]?).map (·.type) = some 64:=by kernel_rfl
theorem cellsErr:Tryz.prog.cellsOf 348 = 1:=by kernel_rfl
theorem cellsStr:Tryz.prog.cellsOf 9 = 1:=by kernel_rfl
theorem starErr: "*" ++ "errors.errorString" = "*errors.errorString":=by decide
theorem rowErr (u:TypeId) (h:Tryz.prog.typeName? 3 u = some "*errors.errorString"):u = 346 :=
 typeName_ptr_named (nm:= "errors.errorString") (by rw [starErr];kernel_rfl) (by kernel_rfl) (by decide) u (by rw [starErr];exact h)
theorem rtT:(Tryz.prog.cutTypes.find? (·.1 == "internal/reflectlite.rtype")).map (·.2) = some 240:=by kernel_rfl
theorem oneRow:((List.range Tryz.prog.types.size).filter fun t => Tryz.prog.rowNamed t [101,114,114,111,114]) = [64]:=by kernel_rfl
def laidE:List (String × DataW Unit):=[("errors.errorType",Rows.laid_errors_errorType)]
abbrev shortS:ByteArray:={ data:=#[116,104,101,32,98,105,116,115,32,101,110,100] }
abbrev codeS:ByteArray:={ data:=#[110,111,32,116,97,98,108,101] }
end Go.Proofs.YtcfnjpokfodmoaaGreatDoor
