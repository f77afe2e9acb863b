/- Lemmas for the row: WldP. -/
import Derived.Test.YtahnnebpadbopaaGreatDoorM01
import Derived.Test.YtahnnebpadbopaaGreatDoorM03
import Derived.Test.YtahnnebpadbopaaGreatDoorM16
set_option linter.unusedVariables false
/- A world, plainly: what the functions of 'world' make of it. No program in sight. -/
namespace Go.Proofs.YtahnnebpadbopaaGreatDoor
open Go.RowKit

def mayB (s : ByteArray) : Bool := namedB s && decide (byt s 0 ≠ 61) && decide (byt s 0 ≠ 126) && decide (byt s (s.size - 1) ≠ 0)
def budgetE (n : Int) : Int := if n < 24 then 9 else if 256 < n then 1 else 0
def worldE (d : Dsk) (budget : Int) : Int := if checkB d && decide (24 ≤ budget) && decide (budget ≤ 256) then 0 else 2
/-- Users' names, in order. -/
def namesD (d : Dsk) : List ByteArray := (d.exts.map Ext.nm).filter mayB
def filesW (d : Dsk) (budget : Int) : List ByteArray × Int := if worldE d budget = 0 then (namesD d, 0) else ([], 2)
def makeW (size n : Int) : Dsk × Int × Int := if (makeD size).2 ≠ 0 then (zeroD, 0, (makeD size).2) else if budgetE n ≠ 0 then (zeroD, 0, budgetE n) else ((makeD size).1, n, 0)
/-- A disk is right, as the document says it. -/
structure RightR (d : Dsk) : Prop where
  size : 0 ≤ d.size ∧ d.size ≤ 16384
  exts : d.exts.length ≤ 16384
  waits : d.waits.length ≤ 16384
  fuse : -1 ≤ d.fuse
  each : ∀ i x, d.exts[i]? = some x → namedB x.nm = true ∧ (∀ y, 0 < i → d.exts[i - 1]? = some y → sless y.nm x.nm = true) ∧ 0 < x.dt.size ∧ x.dt.size % 64 = 0 ∧ (usedE (d.exts.take (i + 1)) : Int) ≤ d.size
  wait : ∀ w ∈ d.waits, waitP d.exts w
end Go.Proofs.YtahnnebpadbopaaGreatDoor
