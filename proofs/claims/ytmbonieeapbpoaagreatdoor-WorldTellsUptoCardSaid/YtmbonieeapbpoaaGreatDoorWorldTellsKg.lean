/- No go statement, by the row of WorldTells. -/
import Derived.Test.YtmbonieeapbpoaaGreatDoorWorldTellsKb
import Derived.Test.YtmbonieeapbpoaaGreatDoorWorldTellsKd
import Derived.Test.YtmbonieeapbpoaaGreatDoorWorldTellsKe
import Derived.Test.YtmbonieeapbpoaaGreatDoorGoesN
namespace Go.Proofs.YtmbonieeapbpoaaGreatDoor.worldTells
open Go
theorem kGoesBy : false = Rows.worldTellsUptoRow.goesBy Tryz.pinned.checked.prog := by
  show false = (Tryz.prog.goesFrom "wringer/wringerlaw29.WorldTells" || false)
  unfold Program.goesFrom
  rw [kFunc]
  rw [Option.any_some, Bool.or_false]
  unfold Program.goes
  rw [kGoes, kUnfollowed, kGoesNone]
  rfl
end Go.Proofs.YtmbonieeapbpoaaGreatDoor.worldTells
