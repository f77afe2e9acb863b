/- The tie: what the variables read as, behind it. -/
import Derived.Test.YtmbonieeapbpoaaGreatDoorTieWA
namespace Go.Proofs.YtmbonieeapbpoaaGreatDoor
open Go
theorem tie8 : ∀ os tape, (DataW.laidRun Tryz.prog (varsWorld Tryz.prog 400 (varsId Tryz.prog) os tape).memory 8 ((laidT.filter fun x => x.2.handleName?.isNone).map (·.1))).map (·.1) = some (laidT.filter fun x => x.2.handleName?.isNone) := fun _ _ => by kernel_rfl
end Go.Proofs.YtmbonieeapbpoaaGreatDoor
