/- No go statement, by the row of FrontQuotes. -/
import Derived.Test.YtahnnebpadbopaaGreatDoorFrontQuotesKb
import Derived.Test.YtahnnebpadbopaaGreatDoorFrontQuotesKd
import Derived.Test.YtahnnebpadbopaaGreatDoorFrontQuotesKe
import Derived.Test.YtahnnebpadbopaaGreatDoorGoesN
namespace Go.Proofs.YtahnnebpadbopaaGreatDoor.frontQuotes
open Go
theorem kGoesBy : false = Rows.frontQuotesUptoRow.goesBy Tryz.pinned.checked.prog := by
  show false = (Tryz.prog.goesFrom "wringer/wringerlaw32.FrontQuotes" || false)
  unfold Program.goesFrom
  rw [kFunc]
  rw [Option.any_some, Bool.or_false]
  unfold Program.goes
  rw [kGoes, kUnfollowed, kGoesNone]
  rfl
end Go.Proofs.YtahnnebpadbopaaGreatDoor.frontQuotes
