/- The tie: their places are apart, and formed. -/
import Derived.Test.YtmbonieeapbpoaaGreatDoorTieWA
namespace Go.Proofs.YtmbonieeapbpoaaGreatDoor
open Go
theorem tie9 : ∀ os tape, (DataW.laidRun Tryz.prog (varsWorld Tryz.prog 400 (varsId Tryz.prog) os tape).memory 8 ((laidT.filter fun x => x.2.handleName?.isNone).map (·.1))).map (fun x => decide x.2.Nodup && laidRowsB Tryz.prog (varsWorld Tryz.prog 400 (varsId Tryz.prog) os tape).memory x.2) = some true := fun _ _ => by kernel_rfl
end Go.Proofs.YtmbonieeapbpoaaGreatDoor
