/- A closed fact of the row of FrontBack: its function's number. -/
import Derived.Test.YtahnnebpadbopaaGreatDoorCards
import Derived.SevenTiedAt
import Derived.ChangeSame
import Derived.ChangeVars
import Derived.JoinedOf
namespace Go.Proofs.YtahnnebpadbopaaGreatDoor.frontBack
open Go
theorem kFunc : Tryz.prog.funcNamed "wringer/wringerlaw32.FrontBack" = some 5 := by kernel_rfl
end Go.Proofs.YtahnnebpadbopaaGreatDoor.frontBack
