/- Lemmas for the row: FrS. -/
import Derived.Test.YtmbonieeapbpoaaGreatDoorM16
import Derived.Lib.AtoiTie
import Derived.Lib.IndexLaws
import Derived.Lib.ParseIntBTie
set_option linter.unusedVariables false
set_option linter.unusedSimpArgs false
/- A step's line is read back, and only so; the document's guess is right at it. No program in sight. -/
namespace Go.Proofs.YtmbonieeapbpoaaGreatDoor
open Go.RowKit Go.Lib

/-! ### Numbers -/
/-! ### A line's reader -/
/-! ### A line -/
theorem blB_bl (s : ByteArray) : blB (bl s) = s := rfl
end Go.Proofs.YtmbonieeapbpoaaGreatDoor
