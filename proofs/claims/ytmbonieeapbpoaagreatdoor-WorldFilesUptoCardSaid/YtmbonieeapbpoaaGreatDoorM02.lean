/- Lemmas for the row: DskP, RecP, FlowP. -/
import Derived.Test.YtmbonieeapbpoaaGreatDoorM01
import Derived.Laws.Strings
set_option linter.unusedVariables false
set_option linter.unusedSimpArgs false
/- A disk of sectors, plainly: what each function of 'disk' makes of it. No program in sight but for the walked words. -/
namespace Go.Proofs.YtmbonieeapbpoaaGreatDoor
open Go.RowKit

structure Ext where
  nm : ByteArray
  dt : ByteArray
deriving DecidableEq
structure Wt where
  nm : ByteArray
  sec : Int
  dt : ByteArray
deriving DecidableEq
structure Dsk where
  size : Int
  exts : List Ext
  waits : List Wt
  fuse : Int
  down : Bool
deriving DecidableEq
def zeroD : Dsk := ⟨0, [], [], 0, false⟩
/-- Two texts' order, as the model has it. -/
def sless (a b : ByteArray) : Bool := Op.bytesLess a.toList b.toList
def namedB (s : ByteArray) : Bool := decide (0 < s.size) && decide (s.size ≤ 16)
def secsE (x : Ext) : Nat := x.dt.size / 64
/-- The binary search. -/
def bsE (l : List Ext) (s : ByteArray) : Nat → Nat → Nat → Nat
  | 0, i, _ => i
  | f + 1, i, j => if i < j then
      (match l[(i + j) / 2]? with
        | some x => if sless x.nm s then bsE l s f ((i + j) / 2 + 1) j else bsE l s f i ((i + j) / 2)
        | none => i)
    else i
def findI (l : List Ext) (s : ByteArray) : Nat := bsE l s (l.length + 1) 0 l.length
def findIs (l : List Ext) (s : ByteArray) : Bool :=
  match l[findI l s]? with
  | some x => decide (x.nm = s)
  | none => false
def extsOK : ByteArray → Int → List Ext → Bool
  | _, _, [] => true
  | last, size, x :: r => namedB x.nm && !(sless x.nm last || decide (x.nm = last)) && decide (0 < x.dt.size) && decide (x.dt.size % 64 = 0) && decide (0 ≤ size - (secsE x : Nat)) && extsOK x.nm (size - (secsE x : Nat)) r
def waitOK (l : List Ext) (w : Wt) : Bool :=
  match l[findI l w.nm]? with
  | some x => decide (x.nm = w.nm) && decide (0 ≤ w.sec) && decide (w.sec < (secsE x : Nat)) && decide (w.dt.size = 64)
  | none => false
def checkB (d : Dsk) : Bool := decide (0 ≤ d.size) && decide (d.size ≤ 16384) && decide (d.waits.length ≤ 16384) && decide (-1 ≤ d.fuse) && extsOK ⟨#[]⟩ d.size d.exts && d.waits.all (waitOK d.exts)
def checkD (d : Dsk) : Int := if checkB d then 0 else 2
def openD (d : Dsk) : Dsk × Int := if checkB d then (d, if d.down then 10 else 0) else (zeroD, 2)
def makeD (n : Int) : Dsk × Int := if n < 0 ∨ 16384 < n then (zeroD, 1) else (⟨n, [], [], -1, false⟩, 0)
def usedE (l : List Ext) : Nat := (l.map secsE).sum
def roomD (d : Dsk) : Int := d.size - (usedE d.exts : Nat)
def zerosB (n : Nat) : ByteArray := ⟨(List.replicate n 0).toArray⟩
def insE (l : List Ext) (i : Nat) (x : Ext) : List Ext := l.take i ++ x :: l.drop i
def delE (l : List Ext) (i : Nat) : List Ext := l.take i ++ l.drop (i + 1)
def newD (d : Dsk) (name : ByteArray) (n : Int) : Dsk × Int :=
  if !namedB name || decide (n < 1) then (d, 1)
  else if findIs d.exts name then (d, 4)
  else if roomD d < n then (d, 8)
  else ({ d with exts := insE d.exts (findI d.exts name) ⟨name, zerosB (64 * n.toNat)⟩ }, 0)
def forgetD (d : Dsk) (name : ByteArray) : Dsk := { d with waits := d.waits.filter fun w => !decide (w.nm = name) }
def freeD (d : Dsk) (name : ByteArray) : Dsk × Int :=
  if findIs d.exts name then (forgetD { d with exts := delE d.exts (findI d.exts name) } name, 0) else (d, 3)
def placeD (d : Dsk) (name : ByteArray) (sec : Int) : Nat × Int :=
  match d.exts[findI d.exts name]? with
  | some x => if x.nm = name then (if sec < 0 ∨ (secsE x : Nat) ≤ sec then (0, 1) else (findI d.exts name, 0)) else (0, 3)
  | none => (0, 3)
/-- The last write that waits for a sector. -/
def lastW (l : List Wt) (name : ByteArray) (sec : Int) : Option ByteArray :=
  (l.reverse.find? fun w => decide (w.sec = sec) && decide (w.nm = name)).map (·.dt)
def readD (d : Dsk) (name : ByteArray) (sec : Int) : ByteArray × Int :=
  if (placeD d name sec).2 ≠ 0 then (⟨#[]⟩, (placeD d name sec).2)
  else match lastW d.waits name sec with
    | some s => (s, 0)
    | none => ((((d.exts[(placeD d name sec).1]?).map Ext.dt).getD ⟨#[]⟩).extract (64 * sec.toNat) (64 * (sec.toNat + 1)), 0)
def writeD (d : Dsk) (name : ByteArray) (sec : Int) (data : ByteArray) : Dsk × Int :=
  if (placeD d name sec).2 ≠ 0 then (d, (placeD d name sec).2)
  else if data.size ≠ 64 then (d, 2)
  else if d.waits.length = 16384 then (d, 8)
  else if d.fuse = 0 then ({ d with waits := d.waits ++ [⟨name, sec, data⟩], down := true }, 10)
  else ({ d with waits := d.waits ++ [⟨name, sec, data⟩], fuse := if 0 < d.fuse then d.fuse - 1 else d.fuse }, 0)
/-- Bytes laid into bytes. -/
def lay (b : ByteArray) (at_ : Nat) (s : ByteArray) : ByteArray := b.extract 0 at_ ++ s ++ b.extract (at_ + s.size) b.size
/-- An extent behind the writes that wait, those that a test keeps. -/
def settleE (keep : Nat → Bool) : Nat → List Wt → Ext → Ext
  | _, [], x => x
  | k, w :: r, x => settleE keep (k + 1) r (if decide (w.nm = x.nm) && keep k then ⟨x.nm, lay x.dt (64 * w.sec.toNat) w.dt⟩ else x)
def settleD (keep : Nat → Bool) (d : Dsk) : Dsk := { d with exts := d.exts.map (settleE keep 0 d.waits), waits := [] }
def syncD (d : Dsk) : Dsk := settleD (fun _ => true) d

/-! ### A pool of frames over a disk -/
structure Frm where
  nm : ByteArray
  sec : Int
  dt : ByteArray
  pins : Int
  dirty : Bool
  tick : Nat
  leased : Bool
deriving DecidableEq
structure Ar where
  dev : Dsk
  frames : List Frm
  tick : Nat
  reads : Nat
  writes : Nat
  peak : Int
deriving DecidableEq
def zeroF : Frm := ⟨⟨#[]⟩, 0, ⟨#[]⟩, 0, false, 0, false⟩
def holdsF (f : Frm) : Bool := decide (0 < f.nm.size)
def getF (a : Ar) (i : Nat) : Frm := a.frames.getD i zeroF
def whereF (l : List Frm) (name : ByteArray) (sec : Int) : Option Nat := l.findIdx? fun f => holdsF f && decide (f.sec = sec) && decide (f.nm = name)
end Go.Proofs.YtmbonieeapbpoaaGreatDoor
/- Files of records, plainly: what each function of 'recs' and 'flow' makes of a disk. No program in sight but for the walked words. -/
namespace Go.Proofs.YtmbonieeapbpoaaGreatDoor
open Go.RowKit

def eachW (width : Nat) : Nat := if width = 0 then 1 else 5 * width
/-- How many sectors it takes, and the error. -/
def needW (width : Int) (count : Nat) : Nat × Int :=
  if width < 0 ∨ 8 < width ∨ 65536 < count then (0, 1) else (1 + (eachW width.toNat * count + 63) / 64, 0)
def padB (s : ByteArray) : ByteArray := if 0 < s.size % 64 then s ++ zerosB (64 - s.size % 64) else s
def headM (width count : Nat) : List Nat := [87, 82, width % 256] ++ five count
def headOf (width count : Nat) : ByteArray := padB (strOf (headM width count ++ tail4 (crcS (headM width count))))
/-- The body's sectors, one by one, while it goes well. -/
def putSecs (name : ByteArray) (all : ByteArray) : Nat → Nat → Dsk → Dsk × Int
  | 0, _, d => (d, 0)
  | k + 1, i, d =>
    let r := writeD d name (i : Nat) (all.extract (64 * (i - 1)) (64 * i))
    if r.2 ≠ 0 then r else putSecs name all k (i + 1) r.1
def putD (d : Dsk) (name : ByteArray) (width count : Nat) (body : ByteArray) : Dsk × Int :=
  if (openD d).2 ≠ 0 then openD d
  else
    let n := needW (width : Nat) count
    if n.2 ≠ 0 then (d, n.2)
    else
      let r := newD d name (n.1 : Nat)
      if r.2 ≠ 0 then r
      else
        let s := putSecs name (padB body) (n.1 - 1) 1 r.1
        if s.2 ≠ 0 then s
        else
          let t := writeD (syncD s.1) name 0 (headOf width count)
          if t.2 ≠ 0 then t else (syncD t.1, 0)
def zerosL (l : List Nat) : Bool := l.all fun c => decide (c = 0)
/-- A head's width and count, and the error. -/
def formB (s : List Nat) : Nat × Nat × Int :=
  if s.take 2 ≠ [87, 82] ∨ 8 < s.getD 2 0 ∨ !zerosL (s.drop 12) then (0, 0, 2)
  else if tail4 (crcS (s.take 8)) ≠ (s.take 12).drop 8 then (0, 0, 6)
  else (s.getD 2 0, ofB ((s.drop 3).take 5), 0)
def headAt (d : Dsk) (name : ByteArray) : Nat × Nat × Int :=
  if (readD d name 0).2 ≠ 0 then (0, 0, (readD d name 0).2)
  else
    let f := formB (strL (readD d name 0).1)
    if f.2.2 ≠ 0 then (0, 0, f.2.2)
    else
      let n := needW (f.1 : Nat) f.2.1
      if n.2 ≠ 0 ∨ (((d.exts.find? fun x => decide (x.nm = name)).map fun x => x.dt.size).getD 0) ≠ n.1 * 64 then (0, 0, 2) else f
def readSecs (d : Dsk) (name : ByteArray) : Nat → Nat → ByteArray
  | 0, _ => ⟨#[]⟩
  | k + 1, i => (readD d name (i : Nat)).1 ++ readSecs d name k (i + 1)
def bodyD (d : Dsk) (name : ByteArray) (text : Bool) : Nat × ByteArray × Int :=
  if (openD d).2 ≠ 0 then (0, ⟨#[]⟩, (openD d).2)
  else
    let h := headAt d name
    if h.2.2 ≠ 0 then (0, ⟨#[]⟩, h.2.2)
    else if text ≠ decide (h.1 = 0) then (0, ⟨#[]⟩, 7)
    else
      let b := readSecs d name ((needW (h.1 : Nat) h.2.1).1 - 1) 1
      let k := eachW h.1 * h.2.1
      if !zerosL (strL (b.extract k b.size)) then (0, ⟨#[]⟩, 7) else (h.1, b.extract 0 k, 0)
/-! ### A reader and a writer through a pool -/
structure Rdr where
  name : ByteArray
  width : Nat
  count : Nat
  at_ : Nat
  frame : Nat
  held : Nat
  why : Int
deriving DecidableEq
structure Wtr where
  name : ByteArray
  width : Nat
  count : Nat
  at_ : Nat
  frame : Nat
  held : Nat
deriving DecidableEq
/-! ### An operation -/
structure Cst where
  reads : Nat
  writes : Nat
  frames : Int
deriving DecidableEq
end Go.Proofs.YtmbonieeapbpoaaGreatDoor
/- Operations through a pool, plainly: what each function of 'flow', 'loser' and 'merge' makes of a disk. No program in sight but for the walked words. -/
namespace Go.Proofs.YtmbonieeapbpoaaGreatDoor
open Go.RowKit

/-! ### A tree of losers -/
/-! ### Merging -/
structure Src where
  rdr : Rdr
  last : List Nat
deriving DecidableEq
end Go.Proofs.YtmbonieeapbpoaaGreatDoor
