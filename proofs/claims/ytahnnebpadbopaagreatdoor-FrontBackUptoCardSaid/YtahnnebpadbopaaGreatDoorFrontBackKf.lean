/- The closed facts of the row of FrontBack, joined. -/
import Derived.Test.YtahnnebpadbopaaGreatDoorFrontBackKa
import Derived.Test.YtahnnebpadbopaaGreatDoorFrontBackKb
import Derived.Test.YtahnnebpadbopaaGreatDoorFrontBackKc
import Derived.Test.YtahnnebpadbopaaGreatDoorFrontBackKe
import Derived.Test.YtahnnebpadbopaaGreatDoorGoesN
import Derived.Test.YtahnnebpadbopaaGreatDoorGoesP
import Derived.Test.YtahnnebpadbopaaGreatDoorLawBase
namespace Go.Proofs.YtahnnebpadbopaaGreatDoor.frontBack
open Go
theorem kRec : Tryz.prog.recurses 5 = true := by
  unfold Program.recurses
  rw [kUnfollowed]
  rfl
theorem c1 : joinedFacts Tryz.prog 5 Tryz.f5 (Rows.OpenSpec.upto Rows.frontBackSpec).bare Rows.frontBackUptoRow = true := by
  unfold joinedFacts
  rw [laidOut, kMaps, kInPlace, kUnfollowed, kRec, kNamed, kPlain, kHeard, kEnter]
  kernel_rfl
end Go.Proofs.YtahnnebpadbopaaGreatDoor.frontBack
