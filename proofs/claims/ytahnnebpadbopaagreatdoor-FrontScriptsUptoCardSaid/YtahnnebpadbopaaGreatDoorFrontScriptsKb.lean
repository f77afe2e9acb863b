/- A closed fact of the row of FrontScripts: something is called otherwise than by name. -/
import Derived.Test.YtahnnebpadbopaaGreatDoorCards
import Derived.SevenTiedAt
import Derived.ChangeSame
import Derived.ChangeVars
import Derived.JoinedOf
namespace Go.Proofs.YtahnnebpadbopaaGreatDoor.frontScripts
open Go
theorem kUnfollowed : Tryz.prog.unfollowed 3 = true := by kernel_rfl
end Go.Proofs.YtahnnebpadbopaaGreatDoor.frontScripts
