/- Closed facts of the program: keys, stops, what may enter. -/
import Derived.Test.YtmbonieeapbpoaaGreatDoorCards
import Derived.SevenTiedAt
import Derived.ChangeSame
import Derived.ChangeVars
import Derived.JoinedOf
namespace Go.Proofs.YtmbonieeapbpoaaGreatDoor
open Go
theorem kPlain : Tryz.prog.plainKeys = true := by kernel_rfl
theorem kHeard : Tryz.prog.stopsHeard = true := by kernel_rfl
theorem kEnter : Tryz.prog.mayEnter = true := by kernel_rfl
end Go.Proofs.YtmbonieeapbpoaaGreatDoor
