/- Lemmas for the row: DocBase. -/
import Derived.Test.YtcfnjpokfodmoaaGreatDoorM06
import Derived.Laws.AppendOwnNone
set_option maxRecDepth 100000
set_option linter.unusedVariables false
namespace Go.Proofs.YtcfnjpokfodmoaaGreatDoor
open Go.RowKit
theorem own_low {w:World} {base e size n m c:Nat} {A:Option Addr} {xs:List Value} (h:w.ownsRow base e size (.slice A m c) n xs):∀ a,A = some a → base ≤ a.block:=fun a ha => (h.lt a.block (by rw [ha];rfl)).1
end Go.Proofs.YtcfnjpokfodmoaaGreatDoor
