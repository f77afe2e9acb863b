/- The tie: the handles. -/
import Derived.Test.YtmbonieeapbpoaaGreatDoorTieWA
namespace Go.Proofs.YtmbonieeapbpoaaGreatDoor
open Go
theorem tie10 : ∀ os tape, (laidT.filter fun x => x.2.handleName?.isSome).all (handleAtB Tryz.prog (varsWorld Tryz.prog 400 (varsId Tryz.prog) os tape).memory) = true := fun _ _ => by kernel_rfl
end Go.Proofs.YtmbonieeapbpoaaGreatDoor
