/- A closed fact of the row of FrontLine: its function's number. -/
import Derived.Test.YtahnnebpadbopaaGreatDoorCards
import Derived.SevenTiedAt
import Derived.ChangeSame
import Derived.ChangeVars
import Derived.JoinedOf
namespace Go.Proofs.YtahnnebpadbopaaGreatDoor.frontLine
open Go
theorem kFunc : Tryz.prog.funcNamed "wringer/wringerlaw32.FrontLine" = some 6 := by kernel_rfl
end Go.Proofs.YtahnnebpadbopaaGreatDoor.frontLine
