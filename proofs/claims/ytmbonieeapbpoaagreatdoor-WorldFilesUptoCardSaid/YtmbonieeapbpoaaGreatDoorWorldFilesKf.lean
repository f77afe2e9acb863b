/- The closed facts of the row of WorldFiles, joined. -/
import Derived.Test.YtmbonieeapbpoaaGreatDoorWorldFilesKa
import Derived.Test.YtmbonieeapbpoaaGreatDoorWorldFilesKb
import Derived.Test.YtmbonieeapbpoaaGreatDoorWorldFilesKc
import Derived.Test.YtmbonieeapbpoaaGreatDoorWorldFilesKe
import Derived.Test.YtmbonieeapbpoaaGreatDoorGoesN
import Derived.Test.YtmbonieeapbpoaaGreatDoorGoesP
import Derived.Test.YtmbonieeapbpoaaGreatDoorLawBase
namespace Go.Proofs.YtmbonieeapbpoaaGreatDoor.worldFiles
open Go
theorem kRec : Tryz.prog.recurses 4 = true := by
  unfold Program.recurses
  rw [kUnfollowed]
  rfl
theorem c1 : joinedFacts Tryz.prog 4 Tryz.f4 (Rows.OpenSpec.upto Rows.worldFilesSpec).bare Rows.worldFilesUptoRow = true := by
  unfold joinedFacts
  rw [laidOut, kMaps, kInPlace, kUnfollowed, kRec, kNamed, kPlain, kHeard, kEnter]
  kernel_rfl
end Go.Proofs.YtmbonieeapbpoaaGreatDoor.worldFiles
