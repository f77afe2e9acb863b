/- A closed fact of the row of FrontScripts: its function's number. -/
import Derived.Test.YtahnnebpadbopaaGreatDoorCards
import Derived.SevenTiedAt
import Derived.ChangeSame
import Derived.ChangeVars
import Derived.JoinedOf
namespace Go.Proofs.YtahnnebpadbopaaGreatDoor.frontScripts
open Go
theorem kFunc : Tryz.prog.funcNamed "wringer/wringerlaw32.FrontScripts" = some 3 := by kernel_rfl
end Go.Proofs.YtahnnebpadbopaaGreatDoor.frontScripts
