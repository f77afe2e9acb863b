/- A closed fact of the row of FrontBack: something is called otherwise than by name. -/
import Derived.Test.YtahnnebpadbopaaGreatDoorCards
import Derived.SevenTiedAt
import Derived.ChangeSame
import Derived.ChangeVars
import Derived.JoinedOf
namespace Go.Proofs.YtahnnebpadbopaaGreatDoor.frontBack
open Go
theorem kUnfollowed : Tryz.prog.unfollowed 5 = true := by kernel_rfl
end Go.Proofs.YtahnnebpadbopaaGreatDoor.frontBack
