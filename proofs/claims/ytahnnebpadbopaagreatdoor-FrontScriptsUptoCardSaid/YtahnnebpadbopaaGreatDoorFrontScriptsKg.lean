/- No go statement, by the row of FrontScripts. -/
import Derived.Test.YtahnnebpadbopaaGreatDoorFrontScriptsKb
import Derived.Test.YtahnnebpadbopaaGreatDoorFrontScriptsKd
import Derived.Test.YtahnnebpadbopaaGreatDoorFrontScriptsKe
import Derived.Test.YtahnnebpadbopaaGreatDoorGoesN
namespace Go.Proofs.YtahnnebpadbopaaGreatDoor.frontScripts
open Go
theorem kGoesBy : false = Rows.frontScriptsUptoRow.goesBy Tryz.pinned.checked.prog := by
  show false = (Tryz.prog.goesFrom "wringer/wringerlaw32.FrontScripts" || false)
  unfold Program.goesFrom
  rw [kFunc]
  rw [Option.any_some, Bool.or_false]
  unfold Program.goes
  rw [kGoes, kUnfollowed, kGoesNone]
  rfl
end Go.Proofs.YtahnnebpadbopaaGreatDoor.frontScripts
