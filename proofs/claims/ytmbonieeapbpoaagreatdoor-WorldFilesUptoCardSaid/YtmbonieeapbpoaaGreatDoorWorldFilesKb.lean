/- A closed fact of the row of WorldFiles: something is called otherwise than by name. -/
import Derived.Test.YtmbonieeapbpoaaGreatDoorCards
import Derived.SevenTiedAt
import Derived.ChangeSame
import Derived.ChangeVars
import Derived.JoinedOf
namespace Go.Proofs.YtmbonieeapbpoaaGreatDoor.worldFiles
open Go
theorem kUnfollowed : Tryz.prog.unfollowed 4 = true := by kernel_rfl
end Go.Proofs.YtmbonieeapbpoaaGreatDoor.worldFiles
