/- The closed facts of the row of FrontQuotes, joined. -/
import Derived.Test.YtahnnebpadbopaaGreatDoorFrontQuotesKa
import Derived.Test.YtahnnebpadbopaaGreatDoorFrontQuotesKb
import Derived.Test.YtahnnebpadbopaaGreatDoorFrontQuotesKc
import Derived.Test.YtahnnebpadbopaaGreatDoorFrontQuotesKe
import Derived.Test.YtahnnebpadbopaaGreatDoorGoesN
import Derived.Test.YtahnnebpadbopaaGreatDoorGoesP
import Derived.Test.YtahnnebpadbopaaGreatDoorLawBase
namespace Go.Proofs.YtahnnebpadbopaaGreatDoor.frontQuotes
open Go
theorem kRec : Tryz.prog.recurses 4 = true := by
  unfold Program.recurses
  rw [kUnfollowed]
  rfl
theorem c1 : joinedFacts Tryz.prog 4 Tryz.f4 (Rows.OpenSpec.upto Rows.frontQuotesSpec).bare Rows.frontQuotesUptoRow = true := by
  unfold joinedFacts
  rw [laidOut, kMaps, kInPlace, kUnfollowed, kRec, kNamed, kPlain, kHeard, kEnter]
  kernel_rfl
end Go.Proofs.YtahnnebpadbopaaGreatDoor.frontQuotes
