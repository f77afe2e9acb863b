/- A closed fact of the row of FrontScripts: what is answered in place. -/
import Derived.Test.YtahnnebpadbopaaGreatDoorCards
import Derived.SevenTiedAt
import Derived.ChangeSame
import Derived.ChangeVars
import Derived.JoinedOf
namespace Go.Proofs.YtahnnebpadbopaaGreatDoor.frontScripts
open Go
theorem kInPlace : (Rows.frontScriptsUptoRow.inPlace == Tryz.prog.inPlace 3) = true := by kernel_rfl
end Go.Proofs.YtahnnebpadbopaaGreatDoor.frontScripts
