/- No go statement, by the row of FrontBack. -/
import Derived.Test.YtahnnebpadbopaaGreatDoorFrontBackKb
import Derived.Test.YtahnnebpadbopaaGreatDoorFrontBackKd
import Derived.Test.YtahnnebpadbopaaGreatDoorFrontBackKe
import Derived.Test.YtahnnebpadbopaaGreatDoorGoesN
namespace Go.Proofs.YtahnnebpadbopaaGreatDoor.frontBack
open Go
theorem kGoesBy : false = Rows.frontBackUptoRow.goesBy Tryz.pinned.checked.prog := by
  show false = (Tryz.prog.goesFrom "wringer/wringerlaw32.FrontBack" || false)
  unfold Program.goesFrom
  rw [kFunc]
  rw [Option.any_some, Bool.or_false]
  unfold Program.goes
  rw [kGoes, kUnfollowed, kGoesNone]
  rfl
end Go.Proofs.YtahnnebpadbopaaGreatDoor.frontBack
