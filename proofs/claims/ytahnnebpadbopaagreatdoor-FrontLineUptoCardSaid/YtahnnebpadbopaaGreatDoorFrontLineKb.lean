/- A closed fact of the row of FrontLine: something is called otherwise than by name. -/
import Derived.Test.YtahnnebpadbopaaGreatDoorCards
import Derived.SevenTiedAt
import Derived.ChangeSame
import Derived.ChangeVars
import Derived.JoinedOf
namespace Go.Proofs.YtahnnebpadbopaaGreatDoor.frontLine
open Go
theorem kUnfollowed : Tryz.prog.unfollowed 6 = true := by kernel_rfl
end Go.Proofs.YtahnnebpadbopaaGreatDoor.frontLine
