/- A closed fact of the row of WorldFiles: no go statement in what is reached. -/
import Derived.Test.YtmbonieeapbpoaaGreatDoorCards
import Derived.SevenTiedAt
import Derived.ChangeSame
import Derived.ChangeVars
import Derived.JoinedOf
namespace Go.Proofs.YtmbonieeapbpoaaGreatDoor.worldFiles
open Go
theorem kGoes : ((Tryz.prog.closure 4).any fun g => (Tryz.prog.funcs[g]?).any Func.goes) = false := by kernel_rfl
end Go.Proofs.YtmbonieeapbpoaaGreatDoor.worldFiles
