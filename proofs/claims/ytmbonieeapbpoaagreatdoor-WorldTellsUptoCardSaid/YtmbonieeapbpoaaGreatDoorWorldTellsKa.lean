/- A closed fact of the row of WorldTells: what is answered in place. -/
import Derived.Test.YtmbonieeapbpoaaGreatDoorCards
import Derived.SevenTiedAt
import Derived.ChangeSame
import Derived.ChangeVars
import Derived.JoinedOf
namespace Go.Proofs.YtmbonieeapbpoaaGreatDoor.worldTells
open Go
theorem kInPlace : (Rows.worldTellsUptoRow.inPlace == Tryz.prog.inPlace 3) = true := by kernel_rfl
end Go.Proofs.YtmbonieeapbpoaaGreatDoor.worldTells
