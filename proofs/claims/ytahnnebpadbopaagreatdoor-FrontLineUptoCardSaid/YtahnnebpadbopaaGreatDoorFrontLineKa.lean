/- A closed fact of the row of FrontLine: what is answered in place. -/
import Derived.Test.YtahnnebpadbopaaGreatDoorCards
import Derived.SevenTiedAt
import Derived.ChangeSame
import Derived.ChangeVars
import Derived.JoinedOf
namespace Go.Proofs.YtahnnebpadbopaaGreatDoor.frontLine
open Go
theorem kInPlace : (Rows.frontLineUptoRow.inPlace == Tryz.prog.inPlace 6) = true := by kernel_rfl
end Go.Proofs.YtahnnebpadbopaaGreatDoor.frontLine
