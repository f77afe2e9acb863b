/- A closed fact of the row of WorldFiles: what is answered in place. -/
import Derived.Test.YtmbonieeapbpoaaGreatDoorCards
import Derived.SevenTiedAt
import Derived.ChangeSame
import Derived.ChangeVars
import Derived.JoinedOf
namespace Go.Proofs.YtmbonieeapbpoaaGreatDoor.worldFiles
open Go
theorem kInPlace : (Rows.worldFilesUptoRow.inPlace == Tryz.prog.inPlace 4) = true := by kernel_rfl
end Go.Proofs.YtmbonieeapbpoaaGreatDoor.worldFiles
