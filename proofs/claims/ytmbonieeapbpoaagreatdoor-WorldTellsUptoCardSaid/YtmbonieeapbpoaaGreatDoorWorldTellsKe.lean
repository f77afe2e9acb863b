/- A closed fact of the row of WorldTells: its function's number. -/
import Derived.Test.YtmbonieeapbpoaaGreatDoorCards
import Derived.SevenTiedAt
import Derived.ChangeSame
import Derived.ChangeVars
import Derived.JoinedOf
namespace Go.Proofs.YtmbonieeapbpoaaGreatDoor.worldTells
open Go
theorem kFunc : Tryz.prog.funcNamed "wringer/wringerlaw29.WorldTells" = some 3 := by kernel_rfl
end Go.Proofs.YtmbonieeapbpoaaGreatDoor.worldTells
