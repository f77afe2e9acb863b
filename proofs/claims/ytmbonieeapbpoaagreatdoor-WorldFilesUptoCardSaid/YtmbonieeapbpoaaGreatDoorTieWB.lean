/- The tie: the laying function names what is listed. -/
import Derived.Test.YtmbonieeapbpoaaGreatDoorTieWA
namespace Go.Proofs.YtmbonieeapbpoaaGreatDoor
open Go
theorem tie6 : varsNamedLaterB Tryz.prog (varsId Tryz.prog) laidT = true := by kernel_rfl
end Go.Proofs.YtmbonieeapbpoaaGreatDoor
