/- The tie: the laying function names what is listed. -/
import Derived.Test.YtahnnebpadbopaaGreatDoorTieA
namespace Go.Proofs.YtahnnebpadbopaaGreatDoor
open Go
theorem tie6 : varsNamedLaterB Tryz.prog (varsId Tryz.prog) laidT = true := by kernel_rfl
end Go.Proofs.YtahnnebpadbopaaGreatDoor
