/- A closed fact of the row of FrontQuotes: the variables that are named. -/
import Derived.Test.YtahnnebpadbopaaGreatDoorCards
import Derived.SevenTiedAt
import Derived.ChangeSame
import Derived.ChangeVars
import Derived.JoinedOf
namespace Go.Proofs.YtahnnebpadbopaaGreatDoor.frontQuotes
open Go
theorem kNamed : (Rows.frontQuotesUptoRow.named == Tryz.prog.varsNamed 4) = true := by kernel_rfl
end Go.Proofs.YtahnnebpadbopaaGreatDoor.frontQuotes
