/- A closed fact of the row of WorldFiles: its function's number. -/
import Derived.Test.YtmbonieeapbpoaaGreatDoorCards
import Derived.SevenTiedAt
import Derived.ChangeSame
import Derived.ChangeVars
import Derived.JoinedOf
namespace Go.Proofs.YtmbonieeapbpoaaGreatDoor.worldFiles
open Go
theorem kFunc : Tryz.prog.funcNamed "wringer/wringerlaw29.WorldFiles" = some 4 := by kernel_rfl
end Go.Proofs.YtmbonieeapbpoaaGreatDoor.worldFiles
