/- The closed facts of the row of FrontLine, joined. -/
import Derived.Test.YtahnnebpadbopaaGreatDoorFrontLineKa
import Derived.Test.YtahnnebpadbopaaGreatDoorFrontLineKb
import Derived.Test.YtahnnebpadbopaaGreatDoorFrontLineKc
import Derived.Test.YtahnnebpadbopaaGreatDoorFrontLineKe
import Derived.Test.YtahnnebpadbopaaGreatDoorGoesN
import Derived.Test.YtahnnebpadbopaaGreatDoorGoesP
import Derived.Test.YtahnnebpadbopaaGreatDoorLawBase
namespace Go.Proofs.YtahnnebpadbopaaGreatDoor.frontLine
open Go
theorem kRec : Tryz.prog.recurses 6 = true := by
  unfold Program.recurses
  rw [kUnfollowed]
  rfl
theorem c1 : joinedFacts Tryz.prog 6 Tryz.f6 (Rows.OpenSpec.upto Rows.frontLineSpec).bare Rows.frontLineUptoRow = true := by
  unfold joinedFacts
  rw [laidOut, kMaps, kInPlace, kUnfollowed, kRec, kNamed, kPlain, kHeard, kEnter]
  kernel_rfl
end Go.Proofs.YtahnnebpadbopaaGreatDoor.frontLine
