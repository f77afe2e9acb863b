/- Lemmas for the row: Bls. -/
import Derived.Test.YtmopegpkoedgbaaGreatDoorM01
import Derived.Test.YtmopegpkoedgbaaGreatDoorM23
import Derived.Test.YtmopegpkoedgbaaGreatDoorShelf
set_option linter.unusedVariables false
set_option linter.unusedSimpArgs false
/- A text's bytes as a builder has them. -/
namespace Go.Proofs.YtmopegpkoedgbaaGreatDoor
open Go.RowKit

def nats (l : List UInt8) : List Nat := l.map UInt8.toNat
theorem nats_app (a b : List UInt8) : nats (a ++ b) = nats a ++ nats b := List.map_append
theorem vbyCells (l : List UInt8) : Lib.byteCells l = vby (nats l) := by
  unfold Lib.byteCells vby nats
  rw [List.map_map]
  rfl
theorem nats_length (l : List UInt8) : (nats l).length = l.length := by unfold nats; rw [List.length_map]
/-- A text's bytes, by their places. -/
theorem bl_size (s : ByteArray) : (bl s).length = s.size := by unfold bl; rw [Array.length_toList]; rfl
theorem blB_bl (s : ByteArray) : blB (bl s) = s := rfl
theorem blB_size (l : List UInt8) : (blB l).size = l.length := by rw [← bl_size]; rfl
theorem strL_blB (l : List UInt8) : strL (blB l) = nats l := by
  apply List.ext_getElem?
  intro i
  unfold nats
  rw [List.getElem?_map]
  rcases Nat.lt_or_ge i (blB l).size with g | g
  · have hl : i < l.length := by rw [← blB_size]; exact g
    rw [strL_get g, List.getElem?_eq_getElem hl, ← byt_of _ g]; rfl
  · have hl : l.length ≤ i := by rw [← blB_size]; exact g
    rw [List.getElem?_eq_none (by rw [strL_length]; exact g), List.getElem?_eq_none hl]; rfl
end Go.Proofs.YtmopegpkoedgbaaGreatDoor
