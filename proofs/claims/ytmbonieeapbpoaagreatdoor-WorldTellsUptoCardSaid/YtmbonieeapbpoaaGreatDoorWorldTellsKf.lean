/- The closed facts of the row of WorldTells, joined. -/
import Derived.Test.YtmbonieeapbpoaaGreatDoorWorldTellsKa
import Derived.Test.YtmbonieeapbpoaaGreatDoorWorldTellsKb
import Derived.Test.YtmbonieeapbpoaaGreatDoorWorldTellsKc
import Derived.Test.YtmbonieeapbpoaaGreatDoorWorldTellsKe
import Derived.Test.YtmbonieeapbpoaaGreatDoorGoesN
import Derived.Test.YtmbonieeapbpoaaGreatDoorGoesP
import Derived.Test.YtmbonieeapbpoaaGreatDoorLawBase
namespace Go.Proofs.YtmbonieeapbpoaaGreatDoor.worldTells
open Go
theorem kRec : Tryz.prog.recurses 3 = true := by
  unfold Program.recurses
  rw [kUnfollowed]
  rfl
theorem c1 : joinedFacts Tryz.prog 3 Tryz.f3 (Rows.OpenSpec.upto Rows.worldTellsSpec).bare Rows.worldTellsUptoRow = true := by
  unfold joinedFacts
  rw [laidOut, kMaps, kInPlace, kUnfollowed, kRec, kNamed, kPlain, kHeard, kEnter]
  kernel_rfl
end Go.Proofs.YtmbonieeapbpoaaGreatDoor.worldTells
