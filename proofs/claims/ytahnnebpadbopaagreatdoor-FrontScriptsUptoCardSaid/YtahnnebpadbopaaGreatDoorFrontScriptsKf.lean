/- The closed facts of the row of FrontScripts, joined. -/
import Derived.Test.YtahnnebpadbopaaGreatDoorFrontScriptsKa
import Derived.Test.YtahnnebpadbopaaGreatDoorFrontScriptsKb
import Derived.Test.YtahnnebpadbopaaGreatDoorFrontScriptsKc
import Derived.Test.YtahnnebpadbopaaGreatDoorFrontScriptsKe
import Derived.Test.YtahnnebpadbopaaGreatDoorGoesN
import Derived.Test.YtahnnebpadbopaaGreatDoorGoesP
import Derived.Test.YtahnnebpadbopaaGreatDoorLawBase
namespace Go.Proofs.YtahnnebpadbopaaGreatDoor.frontScripts
open Go
theorem kRec : Tryz.prog.recurses 3 = true := by
  unfold Program.recurses
  rw [kUnfollowed]
  rfl
theorem c1 : joinedFacts Tryz.prog 3 Tryz.f3 (Rows.OpenSpec.upto Rows.frontScriptsSpec).bare Rows.frontScriptsUptoRow = true := by
  unfold joinedFacts
  rw [laidOut, kMaps, kInPlace, kUnfollowed, kRec, kNamed, kPlain, kHeard, kEnter]
  kernel_rfl
end Go.Proofs.YtahnnebpadbopaaGreatDoor.frontScripts
