/- No go statement, by the row of FrontLine. -/
import Derived.Test.YtahnnebpadbopaaGreatDoorFrontLineKb
import Derived.Test.YtahnnebpadbopaaGreatDoorFrontLineKd
import Derived.Test.YtahnnebpadbopaaGreatDoorFrontLineKe
import Derived.Test.YtahnnebpadbopaaGreatDoorGoesN
namespace Go.Proofs.YtahnnebpadbopaaGreatDoor.frontLine
open Go
theorem kGoesBy : false = Rows.frontLineUptoRow.goesBy Tryz.pinned.checked.prog := by
  show false = (Tryz.prog.goesFrom "wringer/wringerlaw32.FrontLine" || false)
  unfold Program.goesFrom
  rw [kFunc]
  rw [Option.any_some, Bool.or_false]
  unfold Program.goes
  rw [kGoes, kUnfollowed, kGoesNone]
  rfl
end Go.Proofs.YtahnnebpadbopaaGreatDoor.frontLine
