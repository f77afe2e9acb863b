/- No go statement, by the row of WorldFiles. -/
import Derived.Test.YtmbonieeapbpoaaGreatDoorWorldFilesKb
import Derived.Test.YtmbonieeapbpoaaGreatDoorWorldFilesKd
import Derived.Test.YtmbonieeapbpoaaGreatDoorWorldFilesKe
import Derived.Test.YtmbonieeapbpoaaGreatDoorGoesN
namespace Go.Proofs.YtmbonieeapbpoaaGreatDoor.worldFiles
open Go
theorem kGoesBy : false = Rows.worldFilesUptoRow.goesBy Tryz.pinned.checked.prog := by
  show false = (Tryz.prog.goesFrom "wringer/wringerlaw29.WorldFiles" || false)
  unfold Program.goesFrom
  rw [kFunc]
  rw [Option.any_some, Bool.or_false]
  unfold Program.goes
  rw [kGoes, kUnfollowed, kGoesNone]
  rfl
end Go.Proofs.YtmbonieeapbpoaaGreatDoor.worldFiles
