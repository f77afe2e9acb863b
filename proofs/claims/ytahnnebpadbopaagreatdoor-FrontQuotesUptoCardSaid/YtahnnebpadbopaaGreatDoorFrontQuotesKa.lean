/- A closed fact of the row of FrontQuotes: what is answered in place. -/
import Derived.Test.YtahnnebpadbopaaGreatDoorCards
import Derived.SevenTiedAt
import Derived.ChangeSame
import Derived.ChangeVars
import Derived.JoinedOf
namespace Go.Proofs.YtahnnebpadbopaaGreatDoor.frontQuotes
open Go
theorem kInPlace : (Rows.frontQuotesUptoRow.inPlace == Tryz.prog.inPlace 4) = true := by kernel_rfl
end Go.Proofs.YtahnnebpadbopaaGreatDoor.frontQuotes
