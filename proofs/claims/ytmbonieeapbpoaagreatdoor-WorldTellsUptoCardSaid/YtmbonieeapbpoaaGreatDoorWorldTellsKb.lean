/- A closed fact of the row of WorldTells: something is called otherwise than by name. -/
import Derived.Test.YtmbonieeapbpoaaGreatDoorCards
import Derived.SevenTiedAt
import Derived.ChangeSame
import Derived.ChangeVars
import Derived.JoinedOf
namespace Go.Proofs.YtmbonieeapbpoaaGreatDoor.worldTells
open Go
theorem kUnfollowed : Tryz.prog.unfollowed 3 = true := by kernel_rfl
end Go.Proofs.YtmbonieeapbpoaaGreatDoor.worldTells
