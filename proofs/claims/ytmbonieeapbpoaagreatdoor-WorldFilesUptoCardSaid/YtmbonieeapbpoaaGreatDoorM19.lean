/- Lemmas for the row: FrB. -/
import Derived.Test.YtmbonieeapbpoaaGreatDoorM16
import Derived.Test.YtmbonieeapbpoaaGreatDoorM18
import Derived.Test.YtmbonieeapbpoaaGreatDoorShelf
set_option linter.unusedVariables false
set_option linter.unusedSimpArgs false
/- Walks: front.Quote, wringerref32.Quote. -/
namespace Go.Proofs.YtmbonieeapbpoaaGreatDoor
open Go.RowKit

def nats (l : List UInt8) : List Nat := l.map UInt8.toNat
theorem nats_app (a b : List UInt8) : nats (a ++ b) = nats a ++ nats b := List.map_append
theorem vbyCells (l : List UInt8) : Lib.byteCells l = vby (nats l) := by
  unfold Lib.byteCells vby nats
  rw [List.map_map]
  rfl
theorem nats_length (l : List UInt8) : (nats l).length = l.length := by unfold nats; rw [List.length_map]
/-- A text's bytes, by their places. -/
theorem bl_size (s : ByteArray) : (bl s).length = s.size := by unfold bl; rw [Array.length_toList]; rfl
end Go.Proofs.YtmbonieeapbpoaaGreatDoor
