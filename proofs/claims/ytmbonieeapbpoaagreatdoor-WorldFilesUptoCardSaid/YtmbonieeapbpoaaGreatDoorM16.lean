/- Lemmas for the row: FrP, FrA. -/
import Derived.Test.YtmbonieeapbpoaaGreatDoorM01
import Derived.Lib.IndexMore
import Derived.Lib.ItoaNum
import Derived.Lib.Join
import Derived.Lib.ParseIntB
import Derived.Lib.Strings
set_option linter.unusedVariables false
set_option linter.unusedSimpArgs false
/- A script's lines, plainly: what the functions of 'front', and of the document's chapter, make of bytes. No program in sight. -/
namespace Go.Proofs.YtmbonieeapbpoaaGreatDoor
open Go.RowKit

/-! ### Steps -/
structure Stp where
  kind : Nat
  nm : ByteArray
  to_ : ByteArray
  tx : ByteArray
  n : Int
  keep : List Bool
deriving DecidableEq
def hasNm (k : Nat) : Bool := decide (k = 1) || decide (k = 2) || decide (k = 3) || decide (k = 4) || decide (k = 6)
def hasTo (k : Nat) : Bool := decide (k = 4) || decide (k = 6)
def hasN (k : Nat) : Bool := decide (k = 8) || decide (k = 9)
def rightS (s : Stp) : Bool := decide (1 ≤ s.kind) && decide (s.kind ≤ 10) && (hasNm s.kind || decide (s.nm.size = 0)) && (hasTo s.kind || decide (s.to_.size = 0)) && (decide (s.kind = 1) || decide (s.tx.size = 0)) && (hasN s.kind || decide (s.n = 0)) && (decide (s.kind = 10) || decide (s.keep = []))
def bl (s : ByteArray) : List UInt8 := s.data.toList
def blB (l : List UInt8) : ByteArray := ⟨l.toArray⟩
/-! ### The document's -/
end Go.Proofs.YtmbonieeapbpoaaGreatDoor
/- Walks: front.plain, wringerref32.digit. -/
namespace Go.Proofs.YtmbonieeapbpoaaGreatDoor
open Go.RowKit

abbrev hexT : ByteArray := ⟨#[48, 49, 50, 51, 52, 53, 54, 55, 56, 57, 97, 98, 99, 100, 101, 102]⟩
end Go.Proofs.YtmbonieeapbpoaaGreatDoor
