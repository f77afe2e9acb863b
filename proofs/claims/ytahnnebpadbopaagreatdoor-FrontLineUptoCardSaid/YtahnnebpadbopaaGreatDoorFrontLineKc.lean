/- A closed fact of the row of FrontLine: the variables that are named. -/
import Derived.Test.YtahnnebpadbopaaGreatDoorCards
import Derived.SevenTiedAt
import Derived.ChangeSame
import Derived.ChangeVars
import Derived.JoinedOf
namespace Go.Proofs.YtahnnebpadbopaaGreatDoor.frontLine
open Go
theorem kNamed : (Rows.frontLineUptoRow.named == Tryz.prog.varsNamed 6) = true := by kernel_rfl
end Go.Proofs.YtahnnebpadbopaaGreatDoor.frontLine
