/- A closed fact of the row of WorldFiles: the variables that are named. -/
import Derived.Test.YtmbonieeapbpoaaGreatDoorCards
import Derived.SevenTiedAt
import Derived.ChangeSame
import Derived.ChangeVars
import Derived.JoinedOf
namespace Go.Proofs.YtmbonieeapbpoaaGreatDoor.worldFiles
open Go
theorem kNamed : (Rows.worldFilesUptoRow.named == Tryz.prog.varsNamed 4) = true := by kernel_rfl
end Go.Proofs.YtmbonieeapbpoaaGreatDoor.worldFiles
