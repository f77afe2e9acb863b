/- A closed fact of the row of FrontBack: no go statement in what is reached. -/
import Derived.Test.YtahnnebpadbopaaGreatDoorCards
import Derived.SevenTiedAt
import Derived.ChangeSame
import Derived.ChangeVars
import Derived.JoinedOf
namespace Go.Proofs.YtahnnebpadbopaaGreatDoor.frontBack
open Go
theorem kGoes : ((Tryz.prog.closure 5).any fun g => (Tryz.prog.funcs[g]?).any Func.goes) = false := by kernel_rfl
end Go.Proofs.YtahnnebpadbopaaGreatDoor.frontBack
