/- A closed fact of the row of FrontQuotes: its function's number. -/
import Derived.Test.YtahnnebpadbopaaGreatDoorCards
import Derived.SevenTiedAt
import Derived.ChangeSame
import Derived.ChangeVars
import Derived.JoinedOf
namespace Go.Proofs.YtahnnebpadbopaaGreatDoor.frontQuotes
open Go
theorem kFunc : Tryz.prog.funcNamed "wringer/wringerlaw32.FrontQuotes" = some 4 := by kernel_rfl
end Go.Proofs.YtahnnebpadbopaaGreatDoor.frontQuotes
