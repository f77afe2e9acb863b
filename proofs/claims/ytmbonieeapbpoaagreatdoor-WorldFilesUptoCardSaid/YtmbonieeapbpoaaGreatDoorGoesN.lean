/- Closed facts of the program: no go statement; maps. -/
import Derived.Test.YtmbonieeapbpoaaGreatDoorCards
import Derived.SevenTiedAt
import Derived.ChangeSame
import Derived.ChangeVars
import Derived.JoinedOf
namespace Go.Proofs.YtmbonieeapbpoaaGreatDoor
open Go
theorem kGoesNone : Tryz.prog.funcs.any Func.goes = false := by kernel_rfl
theorem kMaps : mapsRowed Tryz.prog = true := by kernel_rfl
end Go.Proofs.YtmbonieeapbpoaaGreatDoor
