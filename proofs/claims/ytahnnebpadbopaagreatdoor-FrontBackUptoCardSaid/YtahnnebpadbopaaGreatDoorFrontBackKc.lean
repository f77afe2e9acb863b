/- A closed fact of the row of FrontBack: the variables that are named. -/
import Derived.Test.YtahnnebpadbopaaGreatDoorCards
import Derived.SevenTiedAt
import Derived.ChangeSame
import Derived.ChangeVars
import Derived.JoinedOf
namespace Go.Proofs.YtahnnebpadbopaaGreatDoor.frontBack
open Go
theorem kNamed : (Rows.frontBackUptoRow.named == Tryz.prog.varsNamed 5) = true := by kernel_rfl
end Go.Proofs.YtahnnebpadbopaaGreatDoor.frontBack
