/- Lemmas for the row: DskP, RecP, FlowP, LosA, LosB, LosC. -/
import Derived.Test.YtmopegpkoedgbaaGreatDoorM01
import Derived.Laws.Strings
set_option linter.unusedVariables false
set_option linter.unusedSimpArgs false
/- A disk of sectors, plainly: what each function of 'disk' makes of it. No program in sight but for the walked words. -/
namespace Go.Proofs.YtmopegpkoedgbaaGreatDoor
open Go.RowKit

structure Ext where
  nm : ByteArray
  dt : ByteArray
deriving DecidableEq
structure Wt where
  nm : ByteArray
  sec : Int
  dt : ByteArray
deriving DecidableEq
structure Dsk where
  size : Int
  exts : List Ext
  waits : List Wt
  fuse : Int
  down : Bool
deriving DecidableEq
def zeroD : Dsk := ⟨0, [], [], 0, false⟩
/-- Two texts' order, as the model has it. -/
def sless (a b : ByteArray) : Bool := Op.bytesLess a.toList b.toList
def namedB (s : ByteArray) : Bool := decide (0 < s.size) && decide (s.size ≤ 16)
def secsE (x : Ext) : Nat := x.dt.size / 64
/-- The binary search. -/
def bsE (l : List Ext) (s : ByteArray) : Nat → Nat → Nat → Nat
  | 0, i, _ => i
  | f + 1, i, j => if i < j then
      (match l[(i + j) / 2]? with
        | some x => if sless x.nm s then bsE l s f ((i + j) / 2 + 1) j else bsE l s f i ((i + j) / 2)
        | none => i)
    else i
def findI (l : List Ext) (s : ByteArray) : Nat := bsE l s (l.length + 1) 0 l.length
def findIs (l : List Ext) (s : ByteArray) : Bool :=
  match l[findI l s]? with
  | some x => decide (x.nm = s)
  | none => false
def extsOK : ByteArray → Int → List Ext → Bool
  | _, _, [] => true
  | last, size, x :: r => namedB x.nm && !(sless x.nm last || decide (x.nm = last)) && decide (0 < x.dt.size) && decide (x.dt.size % 64 = 0) && decide (0 ≤ size - (secsE x : Nat)) && extsOK x.nm (size - (secsE x : Nat)) r
def waitOK (l : List Ext) (w : Wt) : Bool :=
  match l[findI l w.nm]? with
  | some x => decide (x.nm = w.nm) && decide (0 ≤ w.sec) && decide (w.sec < (secsE x : Nat)) && decide (w.dt.size = 64)
  | none => false
def checkB (d : Dsk) : Bool := decide (0 ≤ d.size) && decide (d.size ≤ 16384) && decide (d.waits.length ≤ 16384) && decide (-1 ≤ d.fuse) && extsOK ⟨#[]⟩ d.size d.exts && d.waits.all (waitOK d.exts)
def checkD (d : Dsk) : Int := if checkB d then 0 else 2
def openD (d : Dsk) : Dsk × Int := if checkB d then (d, if d.down then 10 else 0) else (zeroD, 2)
def makeD (n : Int) : Dsk × Int := if n < 0 ∨ 16384 < n then (zeroD, 1) else (⟨n, [], [], -1, false⟩, 0)
def usedE (l : List Ext) : Nat := (l.map secsE).sum
def roomD (d : Dsk) : Int := d.size - (usedE d.exts : Nat)
def zerosB (n : Nat) : ByteArray := ⟨(List.replicate n 0).toArray⟩
def insE (l : List Ext) (i : Nat) (x : Ext) : List Ext := l.take i ++ x :: l.drop i
def newD (d : Dsk) (name : ByteArray) (n : Int) : Dsk × Int :=
  if !namedB name || decide (n < 1) then (d, 1)
  else if findIs d.exts name then (d, 4)
  else if roomD d < n then (d, 8)
  else ({ d with exts := insE d.exts (findI d.exts name) ⟨name, zerosB (64 * n.toNat)⟩ }, 0)
def placeD (d : Dsk) (name : ByteArray) (sec : Int) : Nat × Int :=
  match d.exts[findI d.exts name]? with
  | some x => if x.nm = name then (if sec < 0 ∨ (secsE x : Nat) ≤ sec then (0, 1) else (findI d.exts name, 0)) else (0, 3)
  | none => (0, 3)
/-- The last write that waits for a sector. -/
def lastW (l : List Wt) (name : ByteArray) (sec : Int) : Option ByteArray :=
  (l.reverse.find? fun w => decide (w.sec = sec) && decide (w.nm = name)).map (·.dt)
def readD (d : Dsk) (name : ByteArray) (sec : Int) : ByteArray × Int :=
  if (placeD d name sec).2 ≠ 0 then (⟨#[]⟩, (placeD d name sec).2)
  else match lastW d.waits name sec with
    | some s => (s, 0)
    | none => ((((d.exts[(placeD d name sec).1]?).map Ext.dt).getD ⟨#[]⟩).extract (64 * sec.toNat) (64 * (sec.toNat + 1)), 0)
def writeD (d : Dsk) (name : ByteArray) (sec : Int) (data : ByteArray) : Dsk × Int :=
  if (placeD d name sec).2 ≠ 0 then (d, (placeD d name sec).2)
  else if data.size ≠ 64 then (d, 2)
  else if d.waits.length = 16384 then (d, 8)
  else if d.fuse = 0 then ({ d with waits := d.waits ++ [⟨name, sec, data⟩], down := true }, 10)
  else ({ d with waits := d.waits ++ [⟨name, sec, data⟩], fuse := if 0 < d.fuse then d.fuse - 1 else d.fuse }, 0)
/-- Bytes laid into bytes. -/
def lay (b : ByteArray) (at_ : Nat) (s : ByteArray) : ByteArray := b.extract 0 at_ ++ s ++ b.extract (at_ + s.size) b.size
/-- An extent behind the writes that wait, those that a test keeps. -/
def settleE (keep : Nat → Bool) : Nat → List Wt → Ext → Ext
  | _, [], x => x
  | k, w :: r, x => settleE keep (k + 1) r (if decide (w.nm = x.nm) && keep k then ⟨x.nm, lay x.dt (64 * w.sec.toNat) w.dt⟩ else x)
def settleD (keep : Nat → Bool) (d : Dsk) : Dsk := { d with exts := d.exts.map (settleE keep 0 d.waits), waits := [] }
def syncD (d : Dsk) : Dsk := settleD (fun _ => true) d

/-! ### A pool of frames over a disk -/
structure Frm where
  nm : ByteArray
  sec : Int
  dt : ByteArray
  pins : Int
  dirty : Bool
  tick : Nat
  leased : Bool
deriving DecidableEq
structure Ar where
  dev : Dsk
  frames : List Frm
  tick : Nat
  reads : Nat
  writes : Nat
  peak : Int
deriving DecidableEq
/-- A count's next one. -/
def inc64 (n : Nat) : Nat := (n + 1) % 18446744073709551616
def zeroF : Frm := ⟨⟨#[]⟩, 0, ⟨#[]⟩, 0, false, 0, false⟩
def holdsF (f : Frm) : Bool := decide (0 < f.nm.size)
def freeF (f : Frm) : Bool := decide (f = zeroF)
def idleF (f : Frm) : Bool := freeF f || (holdsF f && decide (f.pins = 0))
def overA (d : Dsk) (n : Nat) : Ar := ⟨d, List.replicate n zeroF, 0, 0, 0, 0⟩
def setF (a : Ar) (i : Nat) (f : Frm) : Ar := { a with frames := a.frames.set i f }
def getF (a : Ar) (i : Nat) : Frm := a.frames.getD i zeroF
def busyA (a : Ar) : Nat := (a.frames.filter fun f => !freeF f).length
def writeA (a : Ar) (i : Nat) : Ar × Int :=
  let r := writeD a.dev (getF a i).nm (getF a i).sec (getF a i).dt
  let b := { a with dev := r.1, writes := inc64 a.writes }
  (if r.2 = 0 then setF b i { getF a i with dirty := false } else b, r.2)
/-- Of two idle frames the one that was pinned longer ago. -/
def elderF (fs : List Frm) (i : Nat) (f : Frm) : Option Nat → Nat
  | none => i
  | some b => if f.tick < (fs.getD b zeroF).tick then i else b
/-- The first free frame, or the idle one that was pinned longest ago. -/
def pickF (fs : List Frm) : Nat → Option Nat → List Frm → Bool × Option Nat
  | _, best, [] => (false, best)
  | i, best, f :: r => if freeF f then (true, some i) else if !idleF f then pickF fs (i + 1) best r else pickF fs (i + 1) (some (elderF fs i f best)) r
def takeA (a : Ar) : Ar × Nat × Int :=
  match pickF a.frames 0 none a.frames with
  | (true, o) => ({ a with peak := max a.peak ((busyA a : Nat) + 1) }, o.getD 0, 0)
  | (false, none) => (a, 0, 9)
  | (false, some b) =>
    if (getF a b).dirty then
      (if (writeA a b).2 ≠ 0 then ((writeA a b).1, 0, (writeA a b).2) else (setF (writeA a b).1 b zeroF, b, 0))
    else (setF a b zeroF, b, 0)
def whereF (l : List Frm) (name : ByteArray) (sec : Int) : Option Nat := l.findIdx? fun f => holdsF f && decide (f.sec = sec) && decide (f.nm = name)
def pinAt (a : Ar) (i : Nat) : Ar × Nat × Int :=
  if (getF a i).pins = 256 then (a, 0, 11)
  else (setF { a with tick := (a.tick + 1) % 18446744073709551616 } i { getF a i with tick := (a.tick + 1) % 18446744073709551616, pins := (getF a i).pins + 1 }, i, 0)
def pinA (a : Ar) (name : ByteArray) (sec : Int) : Ar × Nat × Int :=
  match whereF a.frames name sec with
  | some i => pinAt a i
  | none =>
    if (readD a.dev name sec).2 ≠ 0 then (a, 0, (readD a.dev name sec).2)
    else if (takeA a).2.2 ≠ 0 then ((takeA a).1, 0, (takeA a).2.2)
    else pinAt (setF { (takeA a).1 with reads := inc64 (takeA a).1.reads } (takeA a).2.1 ⟨name, sec, (readD a.dev name sec).1, 0, false, 0, false⟩) (takeA a).2.1
def unpinA (a : Ar) (i : Int) : Ar × Int :=
  if i < 0 ∨ (a.frames.length : Nat) ≤ i then (a, 1)
  else if (getF a i.toNat).pins = 0 then (a, 11)
  else (setF a i.toNat { getF a i.toNat with pins := (getF a i.toNat).pins - 1 }, 0)
def fillA (a : Ar) (i at_ : Nat) (data : ByteArray) : Ar := setF a i { getF a i with dt := lay (getF a i).dt at_ data, dirty := true }
def dropA (a : Ar) (name : ByteArray) : Ar × Int :=
  if a.frames.any fun f => holdsF f && decide (f.nm = name) && decide (0 < f.pins) then (a, 11)
  else ({ a with frames := a.frames.map fun f => if holdsF f && decide (f.nm = name) then zeroF else f }, 0)
def flushF : Nat → Nat → Ar → Ar × Int
  | 0, _, a => (a, 0)
  | n + 1, i, a =>
    if (getF a i).dirty then (if (writeA a i).2 ≠ 0 then writeA a i else flushF n (i + 1) (writeA a i).1)
    else flushF n (i + 1) a
def flushA (a : Ar) : Ar × Int :=
  if (flushF a.frames.length 0 a).2 ≠ 0 then flushF a.frames.length 0 a
  else ({ (flushF a.frames.length 0 a).1 with dev := syncD (flushF a.frames.length 0 a).1.dev }, 0)
end Go.Proofs.YtmopegpkoedgbaaGreatDoor
/- Files of records, plainly: what each function of 'recs' and 'flow' makes of a disk. No program in sight but for the walked words. -/
namespace Go.Proofs.YtmopegpkoedgbaaGreatDoor
open Go.RowKit

def eachW (width : Nat) : Nat := if width = 0 then 1 else 5 * width
/-- How many sectors it takes, and the error. -/
def needW (width : Int) (count : Nat) : Nat × Int :=
  if width < 0 ∨ 8 < width ∨ 65536 < count then (0, 1) else (1 + (eachW width.toNat * count + 63) / 64, 0)
def padB (s : ByteArray) : ByteArray := if 0 < s.size % 64 then s ++ zerosB (64 - s.size % 64) else s
def headM (width count : Nat) : List Nat := [87, 82, width % 256] ++ five count
def headOf (width count : Nat) : ByteArray := padB (strOf (headM width count ++ tail4 (crcS (headM width count))))
/-- The body's sectors, one by one, while it goes well. -/
def putSecs (name : ByteArray) (all : ByteArray) : Nat → Nat → Dsk → Dsk × Int
  | 0, _, d => (d, 0)
  | k + 1, i, d =>
    let r := writeD d name (i : Nat) (all.extract (64 * (i - 1)) (64 * i))
    if r.2 ≠ 0 then r else putSecs name all k (i + 1) r.1
def putD (d : Dsk) (name : ByteArray) (width count : Nat) (body : ByteArray) : Dsk × Int :=
  if (openD d).2 ≠ 0 then openD d
  else
    let n := needW (width : Nat) count
    if n.2 ≠ 0 then (d, n.2)
    else
      let r := newD d name (n.1 : Nat)
      if r.2 ≠ 0 then r
      else
        let s := putSecs name (padB body) (n.1 - 1) 1 r.1
        if s.2 ≠ 0 then s
        else
          let t := writeD (syncD s.1) name 0 (headOf width count)
          if t.2 ≠ 0 then t else (syncD t.1, 0)
def refusedD (d : Dsk) : Dsk × Int := ((openD d).1, 1)
/-- A record's bytes, or none. -/
def recordB (l : List Nat) : Option (List Nat) := if l.length < 1 ∨ 8 < l.length ∨ (l.any fun n => decide (1099511627776 ≤ n)) then none else some (l.flatMap five)
def bodyB (width : Nat) : List (List Nat) → Option (List Nat)
  | [] => some []
  | x :: r => match recordB x with
    | none => none
    | some b => if x.length ≠ width then none else (bodyB width r).map (b ++ ·)
def writeR (d : Dsk) (name : ByteArray) (width : Int) (l : List (List Nat)) : Dsk × Int :=
  if width < 1 ∨ 8 < width ∨ 65536 < l.length then refusedD d
  else match bodyB width.toNat l with
    | none => refusedD d
    | some b => putD d name width.toNat l.length (strOf b)
def zerosL (l : List Nat) : Bool := l.all fun c => decide (c = 0)
/-- A head's width and count, and the error. -/
def formB (s : List Nat) : Nat × Nat × Int :=
  if s.take 2 ≠ [87, 82] ∨ 8 < s.getD 2 0 ∨ !zerosL (s.drop 12) then (0, 0, 2)
  else if tail4 (crcS (s.take 8)) ≠ (s.take 12).drop 8 then (0, 0, 6)
  else (s.getD 2 0, ofB ((s.drop 3).take 5), 0)
def headAt (d : Dsk) (name : ByteArray) : Nat × Nat × Int :=
  if (readD d name 0).2 ≠ 0 then (0, 0, (readD d name 0).2)
  else
    let f := formB (strL (readD d name 0).1)
    if f.2.2 ≠ 0 then (0, 0, f.2.2)
    else
      let n := needW (f.1 : Nat) f.2.1
      if n.2 ≠ 0 ∨ (((d.exts.find? fun x => decide (x.nm = name)).map fun x => x.dt.size).getD 0) ≠ n.1 * 64 then (0, 0, 2) else f
def readSecs (d : Dsk) (name : ByteArray) : Nat → Nat → ByteArray
  | 0, _ => ⟨#[]⟩
  | k + 1, i => (readD d name (i : Nat)).1 ++ readSecs d name k (i + 1)
def bodyD (d : Dsk) (name : ByteArray) (text : Bool) : Nat × ByteArray × Int :=
  if (openD d).2 ≠ 0 then (0, ⟨#[]⟩, (openD d).2)
  else
    let h := headAt d name
    if h.2.2 ≠ 0 then (0, ⟨#[]⟩, h.2.2)
    else if text ≠ decide (h.1 = 0) then (0, ⟨#[]⟩, 7)
    else
      let b := readSecs d name ((needW (h.1 : Nat) h.2.1).1 - 1) 1
      let k := eachW h.1 * h.2.1
      if !zerosL (strL (b.extract k b.size)) then (0, ⟨#[]⟩, 7) else (h.1, b.extract 0 k, 0)
def splitB (width : Nat) : Nat → List Nat → List (List Nat)
  | 0, _ => []
  | f + 1, s => if s = [] then [] else ((List.range width).map fun k => ofB ((s.drop (5 * k)).take 5)) :: splitB width f (s.drop (5 * width))
def readR (d : Dsk) (name : ByteArray) : Nat × List (List Nat) × Int :=
  let r := bodyD d name false
  if r.2.2 ≠ 0 then (0, [], r.2.2) else (r.1, splitB r.1 (r.2.1.size + 1) (strL r.2.1), 0)

/-! ### A reader and a writer through a pool -/
structure Rdr where
  name : ByteArray
  width : Nat
  count : Nat
  at_ : Nat
  frame : Nat
  held : Nat
  why : Int
deriving DecidableEq
def fromA (a : Ar) (name : ByteArray) : Rdr × Int :=
  let h := headAt a.dev name
  (⟨name, h.1, h.2.1, 0, 0, 0, 0⟩, h.2.2)
def rclose (a : Ar) (r : Rdr) : Ar × Rdr := if 0 < r.held then ((unpinA a (r.frame : Nat)).1, { r with held := 0 }) else (a, r)
def rhold (a : Ar) (r : Rdr) : Ar × Rdr × Bool :=
  let sec := 1 + r.at_ / 64
  if sec = r.held then (a, r, true)
  else
    let c := rclose a r
    let p := pinA c.1 r.name (sec : Nat)
    (p.1, { c.2 with frame := p.2.1, why := p.2.2, held := if p.2.2 = 0 then sec else 0 }, decide (p.2.2 = 0))
/-- The next n bytes. -/
def rbytes (n : Nat) : Nat → ByteArray → Ar → Rdr → Ar × Rdr × Option ByteArray
  | 0, _, a, r => (a, r, none)
  | f + 1, out, a, r =>
    if out.size < n then
      let h := rhold a r
      if h.2.2 then
        let s := (getF h.1 h.2.1.frame).dt
        let k := min (s.size - h.2.1.at_ % 64) (n - out.size)
        rbytes n f (out ++ s.extract (h.2.1.at_ % 64) (h.2.1.at_ % 64 + k)) h.1 { h.2.1 with at_ := h.2.1.at_ + k }
      else (h.1, h.2.1, none)
    else (a, r, some out)
def rmore (r : Rdr) : Bool := decide (r.why = 0) && decide (r.at_ < eachW r.width * r.count)
def rnext (a : Ar) (r : Rdr) : Ar × Rdr × Option (List Nat) :=
  if rmore r then
    let b := rbytes (eachW r.width) (eachW r.width + 1) ⟨#[]⟩ a r
    (b.1, b.2.1, b.2.2.map fun s => (List.range r.width).map fun i => ofB (((strL s).drop (5 * i)).take 5))
  else (a, r, none)
structure Wtr where
  name : ByteArray
  width : Nat
  count : Nat
  at_ : Nat
  frame : Nat
  held : Nat
deriving DecidableEq
def toA (a : Ar) (name : ByteArray) (width : Int) (room : Nat) : Ar × Wtr × Int :=
  let n := needW width room
  if n.2 ≠ 0 then (a, ⟨⟨#[]⟩, 0, 0, 0, 0, 0⟩, n.2)
  else
    let r := newD a.dev name (n.1 : Nat)
    ({ a with dev := r.1 }, ⟨name, width.toNat, 0, 0, 0, 0⟩, r.2)
def wclose (a : Ar) (x : Wtr) : Ar × Wtr := if 0 < x.held then ((unpinA a (x.frame : Nat)).1, { x with held := 0 }) else (a, x)
def wraw : Nat → ByteArray → Ar → Wtr → Ar × Wtr × Int
  | 0, _, a, x => (a, x, 0)
  | f + 1, b, a, x =>
    if b.size = 0 then (a, x, 0)
    else
      let sec := 1 + x.at_ / 64
      let c := if sec = x.held then (a, x, (0 : Int)) else
        let c := wclose a x
        let p := pinA c.1 x.name (sec : Nat)
        if p.2.2 ≠ 0 then (p.1, c.2, p.2.2) else (p.1, { c.2 with frame := p.2.1, held := sec }, 0)
      if c.2.2 ≠ 0 then c
      else
        let k := min b.size (64 - c.2.1.at_ % 64)
        wraw f (b.extract k b.size) (fillA c.1 c.2.1.frame (c.2.1.at_ % 64) (b.extract 0 k)) { c.2.1 with at_ := c.2.1.at_ + k }
def wput (a : Ar) (x : Wtr) (l : List Nat) : Ar × Wtr × Int :=
  let b := strOf (l.flatMap five)
  wraw (b.size + 1) b a { x with count := x.count + 1 }
def wseal (a : Ar) (x : Wtr) : Ar × Wtr × Int :=
  let c := wclose a x
  let count := if x.width = 0 then x.at_ else x.count
  let f := flushA c.1
  if f.2 ≠ 0 then (f.1, c.2, f.2)
  else
    let r := writeD f.1.dev x.name 0 (headOf x.width count)
    if r.2 ≠ 0 then ({ f.1 with dev := r.1 }, c.2, r.2)
    else
      let g := dropA { f.1 with dev := syncD r.1, writes := inc64 f.1.writes } x.name
      (g.1, c.2, g.2)
/-! ### An operation -/
structure Cst where
  reads : Nat
  writes : Nat
  frames : Int
deriving DecidableEq
/-- The error of a budget. -/
def beginW (d : Dsk) (budget : Int) : Int :=
  if (openD d).2 ≠ 0 then (openD d).2 else if budget < 24 then 9 else if 256 < budget then 1 else 0
/-- How an operation ends: 'none' stands for one that had no pool. -/
def endW (was : Dsk) (a : Option Ar) (err : Int) : Dsk × Cst × Int :=
  match a with
  | none => (was, ⟨0, 0, 0⟩, err)
  | some a => if err ≠ 0 ∧ err ≠ 10 then (was, ⟨0, 0, 0⟩, err) else (a.dev, ⟨a.reads, a.writes, a.peak⟩, err)
def fromW (a : Ar) (name : ByteArray) : Ar × Rdr × Int :=
  let r := fromA a name
  ({ a with reads := inc64 a.reads }, r.1, if r.2 = 0 ∧ r.1.width = 0 then 7 else r.2)
end Go.Proofs.YtmopegpkoedgbaaGreatDoor
/- Operations through a pool, plainly: what each function of 'flow', 'loser' and 'merge' makes of a disk. No program in sight but for the walked words. -/
namespace Go.Proofs.YtmopegpkoedgbaaGreatDoor
open Go.RowKit

/-- The records of a reader, one by one, each made into another one and put. -/
def eachL {σ : Type} (doF : Nat → List Nat → Ar → σ → Ar × σ × List Nat × Int) : Nat → Nat → Ar → Rdr → Wtr → σ → Ar × Rdr × Wtr × σ × Int
  | 0, _, a, r, x, s => (a, r, x, s, 0)
  | f + 1, i, a, r, x, s =>
    let n := rnext a r
    match n.2.2 with
    | none => (n.1, n.2.1, x, s, 0)
    | some l =>
      let d := doF i l n.1 s
      if d.2.2.2 ≠ 0 then (d.1, n.2.1, x, d.2.1, d.2.2.2)
      else
        let p := wput d.1 x d.2.2.1
        if p.2.2 ≠ 0 then (p.1, n.2.1, p.2.1, d.2.1, p.2.2)
        else eachL doF f (i + 1) p.1 n.2.1 p.2.1 d.2.1
/-! ### A tree of losers -/
def lessL : List Nat → List Nat → Bool
  | _, [] => false
  | [], _ :: _ => true
  | a :: x, b :: y => decide (a < b) || (decide (a = b) && lessL x y)
def beatsT (keys : List (List Nat)) (a b : Nat) : Bool :=
  let x := keys.getD a []
  let y := keys.getD b []
  if x = [] ∧ y = [] then decide (a < b)
  else if x = [] ∨ y = [] then decide (x ≠ [])
  else if x = y then decide (a < b) else lessL x y
def growT (keys : List (List Nat)) : Nat → List Nat → List Nat → List Nat × List Nat
  | 0, win, tree => (win, tree)
  | n + 1, win, tree =>
    let w := win.getD (2 * (n + 1)) 0
    let l := win.getD (2 * (n + 1) + 1) 0
    if beatsT keys l w then growT keys n (win.set (n + 1) l) (tree.set (n + 1) w) else growT keys n (win.set (n + 1) w) (tree.set (n + 1) l)
def ofT (keys : List (List Nat)) : List Nat :=
  let k := keys.length
  let g := growT keys (k - 1) (List.replicate k 0 ++ List.range k) (List.replicate k 0)
  if 1 < k then g.2.set 0 (g.1.getD 1 0) else g.2
def replT (keys : List (List Nat)) : Nat → Nat → Nat → List Nat → Nat × List Nat
  | 0, _, w, tree => (w, tree)
  | f + 1, n, w, tree => if n < 1 then (w, tree) else if beatsT keys (tree.getD n 0) w then replT keys f (n / 2) (tree.getD n 0) (tree.set n w) else replT keys f (n / 2) w tree
def replaceT (keys : List (List Nat)) (tree : List Nat) (key : List Nat) : List (List Nat) × List Nat :=
  let w := tree.getD 0 0
  let k2 := keys.set w key
  let r := replT k2 (keys.length + 1) ((keys.length + w) / 2) w tree
  (k2, r.2.set 0 r.1)
/-! ### Merging -/
structure Src where
  rdr : Rdr
  last : List Nat
deriving DecidableEq
/-- The next record of a source: none at its end; 12 stands for the error of order. -/
def nextS (a : Ar) (s : Src) : Ar × Src × List Nat × Int :=
  let n := rnext a s.rdr
  match n.2.2 with
  | none => let c := rclose n.1 n.2.1; (c.1, { s with rdr := c.2 }, [], c.2.why)
  | some x => if s.last ≠ [] ∧ lessL x s.last then (n.1, { s with rdr := n.2.1 }, [], 12) else (n.1, ⟨n.2.1, x⟩, x, 0)
def sourcesA : List ByteArray → Ar → List Src → Nat → Int → Ar × List Src × Nat × Int
  | [], a, out, sum, bad => (a, out, sum, bad)
  | n :: r, a, out, sum, bad =>
    let f := fromW a n
    if f.2.2 ≠ 0 then (f.1, [], 0, f.2.2)
    else
      let out' := out ++ [⟨f.2.1, []⟩]
      let bad' := if f.2.1.width ≠ ((out'.head?).map fun s => s.rdr.width).getD 0 then 1 else bad
      sourcesA r f.1 out' (sum + f.2.1.count) (if 65536 < sum + f.2.1.count then 1 else bad')
def keysA : List Src → Ar → List Src → List (List Nat) → Ar × List Src × List (List Nat) × Int
  | [], a, done, ks => (a, done, ks, 0)
  | s :: r, a, done, ks =>
    let n := nextS a s
    if n.2.2.2 ≠ 0 then (n.1, done ++ n.2.1 :: r, ks, n.2.2.2) else keysA r n.1 (done ++ [n.2.1]) (ks ++ [n.2.2.1])
def playA : Nat → Ar → List Src → Wtr → List (List Nat) → List Nat → Ar × List Src × Wtr × Int
  | 0, a, l, x, _, _ => (a, l, x, 0)
  | f + 1, a, l, x, keys, tree =>
    let i := tree.getD 0 0
    if keys.getD i [] = [] then (a, l, x, 0)
    else
      let p := wput a x (keys.getD i [])
      if p.2.2 ≠ 0 then (p.1, l, p.2.1, p.2.2)
      else
        let n := nextS p.1 (l.getD i ⟨⟨⟨#[]⟩, 0, 0, 0, 0, 0, 0⟩, []⟩)
        if n.2.2.2 ≠ 0 then (n.1, l.set i n.2.1, p.2.1, n.2.2.2)
        else
          let t := replaceT keys tree n.2.2.1
          playA f n.1 (l.set i n.2.1) p.2.1 t.1 t.2
def intoA (names : List ByteArray) (to_ : ByteArray) (a : Ar) : Ar × Int :=
  let s := sourcesA names a [] 0 0
  if s.2.2.2 ≠ 0 then (s.1, s.2.2.2)
  else
    let o := toA s.1 to_ ((((s.2.1.head?).map fun x => x.rdr.width).getD 0 : Nat)) s.2.2.1
    if o.2.2 ≠ 0 then (o.1, o.2.2)
    else
      let k := keysA s.2.1 o.1 [] []
      if k.2.2.2 ≠ 0 then (k.1, k.2.2.2)
      else
        let p := playA (s.2.2.1 + 1) k.1 k.2.1 o.2.1 k.2.2.1 (ofT k.2.2.1)
        if p.2.2.2 ≠ 0 then (p.1, p.2.2.2)
        else
          let z := wseal p.1 p.2.2.1
          (z.1, z.2.2)
def mergeA (d : Dsk) (budget : Int) (to_ : ByteArray) (names : List ByteArray) : Dsk × Cst × Int :=
  if beginW d budget ≠ 0 then endW (openD d).1 none (beginW d budget)
  else if names.length < 1 ∨ budget - 6 < (names.length : Nat) then endW d (some (overA d budget.toNat)) 1
  else
    let i := intoA names to_ (overA d budget.toNat)
    endW d (some i.1) i.2
def aheadA : Nat → Nat → Ar → Src → Ar × Nat × Bool × Int
  | 0, i, a, _ => (a, i, true, 0)
  | f + 1, i, a, s =>
    let n := nextS a s
    if n.2.2.2 = 12 then (n.1, i, false, 0)
    else if n.2.2.2 ≠ 0 then (n.1, i, false, n.2.2.2)
    else if n.2.2.1 = [] then (n.1, i, true, 0)
    else aheadA f (i + 1) n.1 n.2.1
def sortedA (d : Dsk) (budget : Int) (name : ByteArray) : Nat × Bool × Cst × Int :=
  if beginW d budget ≠ 0 then (0, false, (endW (openD d).1 none (beginW d budget)).2.1, beginW d budget)
  else
    let f := fromW (overA d budget.toNat) name
    if f.2.2 ≠ 0 then (0, false, (endW d (some f.1) f.2.2).2.1, f.2.2)
    else
      let h := aheadA (f.2.1.count + 2) 0 f.1 ⟨f.2.1, []⟩
      let e := endW d (some h.1) h.2.2.2
      if e.2.2 ≠ 0 then (0, false, e.2.1, e.2.2) else (h.2.1, h.2.2.1, e.2.1, 0)
end Go.Proofs.YtmopegpkoedgbaaGreatDoor
/- Walks: slices.Compare at numbers, num.Less. -/
namespace Go.Proofs.YtmopegpkoedgbaaGreatDoor
open Go.RowKit

/-- Less, alike or more, of two numbers. -/
def cmpU (x y : Nat) : Int := if x < y then -1 else if y < x then 1 else 0
/-- Of two lists. -/
def cmpL : List Nat → List Nat → Int
  | [], [] => 0
  | [], _ :: _ => -1
  | _ :: _, [] => 1
  | a :: x, b :: y => if a < b then -1 else if b < a then 1 else cmpL x y
theorem cmpL_self (x : List Nat) : cmpL x x = 0 := by
  induction x with
  | nil => rfl
  | cons a x ih => rw [cmpL, if_neg (Nat.lt_irrefl _), if_neg (Nat.lt_irrefl _), ih]
theorem cmpL_zero : ∀ (x y : List Nat), cmpL x y = 0 → x = y
  | [], [], _ => rfl
  | [], _ :: _, h => by cases h
  | _ :: _, [], h => by cases h
  | a :: x, b :: y, h => by
    rw [cmpL] at h
    split at h
    · cases h
    · split at h
      · cases h
      · rw [cmpL_zero x y h, show a = b by omega]
theorem cmpL_less : ∀ (x y : List Nat), decide (cmpL x y < 0) = lessL x y
  | [], [] => rfl
  | [], _ :: _ => rfl
  | _ :: _, [] => rfl
  | a :: x, b :: y => by
    rw [cmpL, lessL, ← cmpL_less x y]
    by_cases h : a < b
    · rw [if_pos h, decide_eq_true h]; rfl
    · rw [if_neg h, decide_eq_false h]
      by_cases h2 : b < a
      · rw [if_pos h2, decide_eq_false (show ¬ a = b by omega)]; rfl
      · rw [if_neg h2, decide_eq_true (show a = b by omega)]; rfl
theorem drop_cons_n {a : List Nat} {k x : Nat} (h : a[k]? = some x) : a.drop k = x :: a.drop (k + 1) := by
  obtain ⟨hk, rfl⟩ := List.getElem?_eq_some_iff.1 h
  exact List.drop_eq_getElem_cons hk
theorem isNaN_num (x : Nat) (w : World) : Calls Tryz.prog 146 #[.int .u64 x] w fun e w' => e = .returned (.bool false) ∧ w' = w := by
  go_enter Tryz.func146, Tryz.ntmps146
  go_wp2
  go_ret
  exact ⟨by first | rfl | (simp; done), rfl⟩
theorem cmp_num (x y : Nat) (w : World) : Calls Tryz.prog 105 #[.int .u64 x, .int .u64 y] w fun e w' => e = .returned (.int .i64 (cmpU x y)) ∧ w' = w := by
  have nan := fun (z : Nat) (W : World) => isNaN_num z W
  have HN := hide nan
  clear nan
  by_cases h : x < y
  · have e1 : cmpU x y = -1 := if_pos h
    rw [e1]
    go_enter Tryz.func105, Tryz.ntmps105
    go_wp2_with (go_at_call 146; refine (Calls.mono (HN.out _ _) ?_); rintro e w1 ⟨rfl, hww⟩; replace hww := hww.symm; subst hww)
    go_ret
    exact ⟨rfl, rfl⟩
  · by_cases h2 : y < x
    · have e1 : cmpU x y = 1 := by unfold cmpU; rw [if_neg h, if_pos h2]
      rw [e1]
      go_enter Tryz.func105, Tryz.ntmps105
      go_wp2_with (go_at_call 146; refine (Calls.mono (HN.out _ _) ?_); rintro e w1 ⟨rfl, hww⟩; replace hww := hww.symm; subst hww)
      go_ret
      exact ⟨rfl, rfl⟩
    · have e1 : cmpU x y = 0 := by unfold cmpU; rw [if_neg h, if_neg h2]
      rw [e1]
      go_enter Tryz.func105, Tryz.ntmps105
      go_wp2_with (go_at_call 146; refine (Calls.mono (HN.out _ _) ?_); rintro e w1 ⟨rfl, hww⟩; replace hww := hww.symm; subst hww)
      go_ret
      exact ⟨rfl, rfl⟩
set_option maxHeartbeats 1000000 in
theorem cmpS_any (A B : Option Addr) (a b : List Nat) (ca cb n : Nat) (w : World) (ha : Rd w n A (vu64 a)) (hb : Rd w n B (vu64 b)) (la : a.length ≤ 1000000) (lb : b.length ≤ 1000000) :
    Calls Tryz.prog 66 #[.slice A a.length ca, .slice B b.length cb] w fun e w' => e = .returned (.int .i64 (cmpL a b)) ∧ w' = w := by
  have hc := fun (x y : Nat) (W : World) => cmp_num x y W
  have HC := hide hc
  have HA := hide ha
  have HB := hide hb
  obtain ⟨R, hR⟩ : ∃ R, R = cmpL a b := ⟨_, rfl⟩
  rw [← hR]
  have HR := hide (show R = cmpL (a.drop 0) (b.drop 0) from hR)
  clear hc ha hb hR
  go_enter Tryz.func66, Tryz.ntmps66
  go_wp2
  go_loopw [11] (fun i wr => ∃ k : Nat, k ≤ a.length ∧ k ≤ b.length ∧ Hid (R = cmpL (a.drop k) (b.drop k)) ∧ i = .int .i64 k ∧ wr = w) (fun i _ => a.length - (intOf i).toNat)
  case atStart => exact ⟨0, by omega, by omega, HR, rfl, rfl⟩
  case round =>
    clear HR
    obtain ⟨k, hka, hkb, HR, rfl, rfl⟩ := hrel
    by_cases h1 : k < a.length
    · by_cases h2 : k < b.length
      · obtain ⟨b1, o1, x, rfl, hb1, hx, c1⟩ := HA.out.u64 h1
        obtain ⟨b2, o2, y, rfl, hb2, hy, c2⟩ := HB.out.u64 h2
        have hR := HR.out
        rw [drop_cons_n hx, drop_cons_n hy, cmpL] at hR
        clear HR hx hy
        have hl1 : b1 < wr.heap.size := World.block_lt_of_cell? wr _ c1
        have hl2 : b2 < wr.heap.size := World.block_lt_of_cell? wr _ c2
        rcases Nat.lt_trichotomy x y with g | g | g
        · have e1 : cmpU x y = -1 := if_pos g
          rw [if_pos g] at hR
          have HR := hide hR
          have hcc := fun W => cmp_num x y W
          rw [e1] at hcc
          have HCC := hide hcc
          clear hR e1 hcc HC
          go_wp2_with (go_at_call 105; refine (Calls.mono (HCC.out _) ?_); rintro e w1 ⟨rfl, hww⟩; replace hww := hww.symm; subst hww)
          go_ret
          exact ⟨by rw [HR.out]; rfl, rfl⟩
        · subst g
          rw [if_neg (Nat.lt_irrefl _), if_neg (Nat.lt_irrefl _)] at hR
          have HR := hide hR
          have hcc := fun W => cmp_num x x W
          rw [show cmpU x x = 0 from by unfold cmpU; rw [if_neg (Nat.lt_irrefl _), if_neg (Nat.lt_irrefl _)]] at hcc
          have HCC := hide hcc
          clear hR hcc HC
          go_wp2_with (go_at_call 105; refine (Calls.mono (HCC.out _) ?_); rintro e w1 ⟨rfl, hww⟩; replace hww := hww.symm; subst hww)
          exact ⟨⟨k + 1, by omega, by omega, HR, by go_num, by first | rfl | trivial⟩, by simp [intOf]; omega⟩
        · have e1 : cmpU x y = 1 := by unfold cmpU; rw [if_neg (by omega), if_pos g]
          rw [if_neg (by omega), if_pos g] at hR
          have HR := hide hR
          have hcc := fun W => cmp_num x y W
          rw [e1] at hcc
          have HCC := hide hcc
          clear hR e1 hcc HC
          go_wp2_with (go_at_call 105; refine (Calls.mono (HCC.out _) ?_); rintro e w1 ⟨rfl, hww⟩; replace hww := hww.symm; subst hww)
          go_ret
          exact ⟨by rw [HR.out]; rfl, rfl⟩
      · obtain ⟨b1, o1, x, rfl, hb1, hx, c1⟩ := HA.out.u64 h1
        have hR := HR.out
        rw [drop_cons_n hx, show b.drop k = [] from List.drop_eq_nil_of_le (by omega), cmpL] at hR
        have HR := hide hR
        clear hR hx
        go_wp2
        go_ret
        exact ⟨by rw [HR.out]; rfl, rfl⟩
    · have hR := HR.out
      rw [show a.drop k = [] from List.drop_eq_nil_of_le (by omega)] at hR
      by_cases h2 : k < b.length
      · rw [List.drop_eq_getElem_cons h2, cmpL] at hR
        have HR := hide hR
        clear hR
        go_wp2
        go_ret
        exact ⟨by rw [HR.out]; rfl, rfl⟩
      · rw [show b.drop k = [] from List.drop_eq_nil_of_le (by omega), cmpL] at hR
        have HR := hide hR
        clear hR
        go_wp2
        go_ret
        exact ⟨by rw [HR.out]; rfl, rfl⟩
theorem nless_any (A B : Option Addr) (a b : List Nat) (ca cb n : Nat) (w : World) (ha : Rd w n A (vu64 a)) (hb : Rd w n B (vu64 b)) (la : a.length ≤ 1000000) (lb : b.length ≤ 1000000) :
    Calls Tryz.prog 37 #[.slice A a.length ca, .slice B b.length cb] w fun e w' => e = .returned (.bool (lessL a b)) ∧ w' = w := by
  have hc := cmpS_any A B a b ca cb n w ha hb la lb
  have hl := cmpL_less a b
  obtain ⟨c, hcc⟩ : ∃ c, c = cmpL a b := ⟨_, rfl⟩
  rw [← hcc] at hc hl
  rw [← hl]
  have HC := hide hc
  clear hc hl ha hb hcc
  go_enter Tryz.func37, Tryz.ntmps37
  go_wp2_with (go_at_call 66; refine (Calls.mono HC.out ?_); rintro e w1 ⟨rfl, hww⟩; replace hww := hww.symm; subst hww)
  go_ret
  exact ⟨rfl, rfl⟩
end Go.Proofs.YtmopegpkoedgbaaGreatDoor
/- A tree of losers in memory; (*loser.Tree).beats, Win. -/
namespace Go.Proofs.YtmopegpkoedgbaaGreatDoor
open Go.RowKit

def vint (l : List Nat) : List Value := l.map fun x => .int .i64 (x : Nat)
theorem vint_get {l : List Nat} {i x : Nat} (h : l[i]? = some x) : (vint l)[i]? = some (.int .i64 (x : Nat)) := by unfold vint; rw [List.getElem?_map, h]; rfl
theorem vint_set (l : List Nat) (i x : Nat) : (vint l).set i (.int .i64 (x : Nat)) = vint (l.set i x) := by unfold vint; rw [List.map_set]
/-- The keys' slices: each is of its own, and holds one key. -/
structure KeysR (w : World) (vs : List Value) (keys : List (List Nat)) : Prop where
  len : vs.length = keys.length
  row : ∀ (i : Nat) (l : List Nat), keys[i]? = some l → l.length ≤ 1000000 ∧ ∃ A c, vs[i]? = some (Value.slice A l.length c) ∧ w.ownsRow 0 27 1 (.slice A l.length c) l.length (vu64 l)
theorem KeysR.fr {w w' : World} {vs : List Value} {keys : List (List Nat)} (h : KeysR w vs keys) (hf : ∀ v n xs, w.ownsRow 0 27 1 v n xs → w'.ownsRow 0 27 1 v n xs) : KeysR w' vs keys := ⟨h.len, fun i l hl => by
  obtain ⟨hb, A, c, hv, ho⟩ := h.row i l hl
  exact ⟨hb, A, c, hv, hf _ _ _ ho⟩⟩
theorem KeysR.set_ {w : World} {vs : List Value} {keys : List (List Nat)} (h : KeysR w vs keys) (i : Nat) {A : Option Addr} {c : Nat} {l : List Nat} (hl : l.length ≤ 1000000) (ho : w.ownsRow 0 27 1 (.slice A l.length c) l.length (vu64 l)) : KeysR w (vs.set i (.slice A l.length c)) (keys.set i l) := ⟨by simp [h.len], fun j m hm => by
  rw [List.getElem?_set] at hm ⊢
  split at hm
  · rename_i e
    subst e
    split at hm
    · rename_i hlt
      cases hm
      rw [if_pos rfl, if_pos (by rw [h.len]; exact hlt)]
      exact ⟨hl, A, c, rfl, ho⟩
    · cases hm
  · rename_i e
    rw [if_neg e]
    exact h.row j m hm⟩
/-- A tree lies in block t, its keys' slices in kb, its games in tb. -/
structure TreeAt (w : World) (t kb tb : Nat) (vs : List Value) (keys : List (List Nat)) (tree : List Nat) : Prop where
  blk : Bk w t 211 #[.slice (some ⟨kb, 0, none⟩) keys.length keys.length, .slice (some ⟨tb, 0, none⟩) keys.length keys.length]
  kbk : Bk w kb 63 vs.toArray
  row : KeysR w vs keys
  tbk : Bk w tb 3 (vint tree).toArray
  len : tree.length = keys.length
  most : keys.length ≤ 1000000
theorem TreeAt.fr {w w' : World} {t kb tb : Nat} {vs : List Value} {keys : List (List Nat)} {tree : List Nat} (h : TreeAt w t kb tb vs keys tree) (hb : ∀ g ty cs, Bk w g ty cs → (ty = 211 ∨ ty = 63 ∨ ty = 3) → Bk w' g ty cs) (hf : ∀ v n xs, w.ownsRow 0 27 1 v n xs → w'.ownsRow 0 27 1 v n xs) : TreeAt w' t kb tb vs keys tree :=
  ⟨hb _ _ _ h.blk (.inl rfl), hb _ _ _ h.kbk (.inr (.inl rfl)), h.row.fr hf, hb _ _ _ h.tbk (.inr (.inr rfl)), h.len, h.most⟩
theorem TreeAt.drewN {w : World} {t kb tb : Nat} {vs : List Value} {keys : List (List Nat)} {tree : List Nat} (h : TreeAt w t kb tb vs keys tree) (n : Nat) : TreeAt (w.drewN n) t kb tb vs keys tree := h.fr (fun _ _ _ h _ => h) (fun _ _ _ h => h)
theorem tree_key {w : World} {t kb tb : Nat} {vs : List Value} {keys : List (List Nat)} {tree : List Nat} (h : TreeAt w t kb tb vs keys tree) {a : Nat} (ha : a < keys.length) : ∃ x A c, keys[a]? = some x ∧ x.length ≤ 1000000 ∧ w.cell? ⟨kb, a, none⟩ = some (Value.slice A x.length c) ∧ w.ownsRow 0 27 1 (.slice A x.length c) x.length (vu64 x) := by
  obtain ⟨hl, A, c, hv, ho⟩ := h.row.row a _ (List.getElem?_eq_getElem ha)
  exact ⟨_, A, c, List.getElem?_eq_getElem ha, hl, by rw [h.kbk.cell, List.getElem?_toArray, hv], ho⟩
theorem tree_node {w : World} {t kb tb : Nat} {vs : List Value} {keys : List (List Nat)} {tree : List Nat} (h : TreeAt w t kb tb vs keys tree) {a : Nat} (ha : a < keys.length) : ∃ x, tree[a]? = some x ∧ w.cell? ⟨tb, a, none⟩ = some (.int .i64 (x : Nat)) := by
  have hlt : a < tree.length := by rw [h.len]; exact ha
  exact ⟨tree[a], List.getElem?_eq_getElem hlt, by rw [h.tbk.cell, List.getElem?_toArray, vint_get (List.getElem?_eq_getElem hlt)]⟩
set_option maxRecDepth 100000 in
set_option maxHeartbeats 2000000 in
theorem beats_any (t kb tb : Nat) (vs : List Value) (keys : List (List Nat)) (tree : List Nat) (a b : Nat) (w : World) (h : TreeAt w t kb tb vs keys tree) (ha : a < keys.length) (hb : b < keys.length) :
    Calls Tryz.prog 179 #[.pointer (some ⟨t, 0, none⟩), .int .i64 a, .int .i64 b] w fun e w' => e = .returned (.bool (beatsT keys a b)) ∧ ∃ n, w' = w.drewN n := by
  obtain ⟨x, A, ca, hx, lx, kx, ox⟩ := tree_key h ha
  obtain ⟨y, B, cb, hy, ly, ky, oy⟩ := tree_key h hb
  obtain ⟨c0, c1⟩ := two_cells h.blk
  have hm := h.most
  have hlt := h.blk.lt
  have hlk := h.kbk.lt
  have hc := fun W h1 h2 => cmpS_any A B x y ca cb w.heap.size W h1 h2 lx ly
  have rx := own_rd ox
  have ry := own_rd oy
  have hz := cmpL_zero x y
  have hs := cmpL_self x
  have hl := cmpL_less x y
  obtain ⟨R, hR⟩ : ∃ R, R = beatsT keys a b := ⟨_, rfl⟩
  have hRe := hR
  rw [← hR]
  unfold beatsT at hRe
  dsimp only at hRe
  rw [List.getD_eq_getElem?_getD, List.getD_eq_getElem?_getD, hx, hy, Option.getD_some, Option.getD_some] at hRe
  obtain ⟨c, hcc⟩ : ∃ c, c = cmpL x y := ⟨_, rfl⟩
  rw [← hcc] at hc hz hl
  have hcs : x = y → c = 0 := fun e => by rw [hcc, ← e, hs]
  have HC := hide hc
  have HRX := hide rx
  have HRY := hide ry
  have HL := hide hl
  have HZ := hide hz
  have HCS := hide hcs
  obtain ⟨n, hn⟩ : ∃ n, n = x.length := ⟨_, rfl⟩
  obtain ⟨m, hmm⟩ : ∃ m, m = y.length := ⟨_, rfl⟩
  rw [← hn] at kx lx HC
  rw [← hmm] at ky ly HC
  have hx0 : x = [] ↔ n = 0 := by rw [hn]; cases x <;> simp
  have hy0 : y = [] ↔ m = 0 := by rw [hmm]; cases y <;> simp
  have HX0 := hide hx0
  have HY0 := hide hy0
  have HRe := hide hRe
  clear hc rx ry hz hs hl hR hRe hcc hcs hx0 hy0 hn hmm hx hy ox oy h
  by_cases h1 : n = 0
  · subst h1
    have e1 := HX0.out.2 rfl
    by_cases h2 : m = 0
    · subst h2
      have e2 := HY0.out.2 rfl
      have hRe := HRe.out
      rw [if_pos ⟨e1, e2⟩] at hRe
      have HRe := hide hRe
      clear hRe e1 e2 HC
      go_enter Tryz.func179, Tryz.ntmps179
      go_wp2_with fail
      go_quiet (fail)
      go_wp2_with fail
      go_ret
      exact ⟨by rw [HRe.out]; first | rfl | (simp; done), _, rfl⟩
    · have e2 : ¬ y = [] := fun e => h2 (HY0.out.1 e)
      have hRe := HRe.out
      rw [if_neg (fun e => e2 e.2), if_pos (.inl e1), decide_eq_false (fun e => e e1)] at hRe
      have HRe := hide hRe
      have h2I : ((m : Int) == 0) = false := by rw [beq_eq_false_iff_ne]; omega
      clear hRe e1 e2 HC h2
      go_enter Tryz.func179, Tryz.ntmps179
      go_wp2_with fail
      go_quiet (fail)
      go_wp2_with fail
      go_ret
      exact ⟨by rw [HRe.out]; first | rfl | (simp; done), _, rfl⟩
  · have e1 : ¬ x = [] := fun e => h1 (HX0.out.1 e)
    have h1I : ((n : Int) == 0) = false := by rw [beq_eq_false_iff_ne]; omega
    have h1J : (0 : Int) < (n : Int) := by omega
    have h1N : 0 < n := by omega
    by_cases h2 : m = 0
    · subst h2
      have e2 := HY0.out.2 rfl
      have hRe := HRe.out
      rw [if_neg (fun e => e1 e.1), if_pos (.inr e2), decide_eq_true e1] at hRe
      have HRe := hide hRe
      clear hRe e1 e2 HC h1
      go_enter Tryz.func179, Tryz.ntmps179
      go_wp2_with fail
      go_quiet (fail)
      go_wp2_with fail
      go_ret
      exact ⟨by rw [HRe.out]; first | rfl | (simp; done), _, rfl⟩
    · have e2 : ¬ y = [] := fun e => h2 (HY0.out.1 e)
      have h2I : ((m : Int) == 0) = false := by rw [beq_eq_false_iff_ne]; omega
      have hRe := HRe.out
      rw [if_neg (fun e => e1 e.1), if_neg (fun e => e.elim e1 e2)] at hRe
      by_cases h3 : x = y
      · rw [if_pos h3] at hRe
        have h3c := HCS.out h3
        subst h3c
        have HRe := hide hRe
        clear hRe e1 e2 h3 h1 h2
        go_enter Tryz.func179, Tryz.ntmps179
        go_wp2_with fail
        go_quiet (fail)
        go_wp2_with (go_at_call 66; refine (Calls.mono (HC.out _ HRX.out HRY.out) ?_); rintro e w1 ⟨rfl, hww⟩; replace hww := hww.symm; subst hww)
        go_ret
        exact ⟨by rw [HRe.out]; first | rfl | (simp; done), _, rfl⟩
      · rw [if_neg h3] at hRe
        have h3c : (c != 0) = true := by simp only [bne_iff_ne, ne_eq]; exact fun e => h3 (HZ.out e)
        rw [← HL.out] at hRe
        have HRe := hide hRe
        clear hRe e1 e2 h3 h1 h2
        go_enter Tryz.func179, Tryz.ntmps179
        go_wp2_with fail
        go_quiet (fail)
        go_wp2_with (go_at_call 66; refine (Calls.mono (HC.out _ HRX.out HRY.out) ?_); rintro e w1 ⟨rfl, hww⟩; replace hww := hww.symm; subst hww)
        go_ret
        exact ⟨by rw [HRe.out]; first | rfl | (simp; done), _, rfl⟩
set_option maxRecDepth 100000 in
theorem win_any (t kb tb : Nat) (vs : List Value) (keys : List (List Nat)) (tree : List Nat) (w : World) (h : TreeAt w t kb tb vs keys tree) (hk : 1 ≤ keys.length) (hr : tree.getD 0 0 < keys.length) :
    Calls Tryz.prog 137 #[.pointer (some ⟨t, 0, none⟩)] w fun e w' => e = .returned (.tuple #[.int .i64 (tree.getD 0 0 : Nat), .bool (decide (0 < (keys.getD (tree.getD 0 0) []).length))]) ∧ ∃ n, w' = w.drewN n := by
  obtain ⟨i, hi, ci⟩ := tree_node h (a := 0) (by omega)
  rw [List.getD_eq_getElem?_getD, hi, Option.getD_some] at hr ⊢
  obtain ⟨x, A, ca, hx, lx, kx, ox⟩ := tree_key h hr
  rw [List.getD_eq_getElem?_getD, hx, Option.getD_some]
  obtain ⟨c0, c1⟩ := two_cells h.blk
  have hm := h.most
  have hlt := h.blk.lt
  have hlk := h.kbk.lt
  have hlb := h.tbk.lt
  clear h hi hx ox
  go_enter Tryz.func137, Tryz.ntmps137
  go_wp2_with fail
  go_quiet (fail)
  go_wp2_with fail
  go_ret2
  exact ⟨by simp, _, rfl⟩
end Go.Proofs.YtmopegpkoedgbaaGreatDoor
/- Walks: (*loser.Tree).Replace, grow, loser.Of. -/
namespace Go.Proofs.YtmopegpkoedgbaaGreatDoor
open Go.RowKit

section
variable {w w' : World} {t kb tb : Nat} {vs : List Value} {keys : List (List Nat)} {tree : List Nat}
theorem TreeAt.put (h : TreeAt w t kb tb vs keys tree) (i x : Nat) : TreeAt (w.setCell ⟨tb, i, none⟩ (.int .i64 (x : Nat))) t kb tb vs keys (tree.set i x) := by
  refine ⟨h.blk.far (p := ⟨tb, i, none⟩) (fun e => h.blk.ne_ h.tbk (by decide) e) _, h.kbk.far (p := ⟨tb, i, none⟩) (fun e => h.kbk.ne_ h.tbk (by decide) e) _, h.row.fr (fun v n xs ho => own_set ho (p := ⟨tb, i, none⟩) (fun e => own_ne ho h.tbk (by decide) e.symm) _), ?_, by simp [h.len], h.most⟩
  have := h.tbk.set_ i (.int .i64 (x : Nat))
  rw [List.setIfInBounds_toArray, vint_set] at this
  exact this
theorem TreeAt.key (h : TreeAt w t kb tb vs keys tree) (i : Nat) {A : Option Addr} {c : Nat} {l : List Nat} (hl : l.length ≤ 1000000) (ho : w.ownsRow 0 27 1 (.slice A l.length c) l.length (vu64 l)) : TreeAt (w.setCell ⟨kb, i, none⟩ (.slice A l.length c)) t kb tb (vs.set i (.slice A l.length c)) (keys.set i l) tree := by
  have hs := h.kbk.set_ i (.slice A l.length c)
  rw [List.setIfInBounds_toArray] at hs
  have hf : ∀ v n xs, w.ownsRow 0 27 1 v n xs → (w.setCell ⟨kb, i, none⟩ (.slice A l.length c)).ownsRow 0 27 1 v n xs := fun v n xs ho => own_set ho (p := ⟨kb, i, none⟩) (fun e => own_ne ho h.kbk (by decide) e.symm) _
  refine ⟨?_, hs, (h.row.fr hf).set_ i hl (hf _ _ _ ho), h.tbk.far (p := ⟨kb, i, none⟩) (fun e => h.tbk.ne_ h.kbk (by decide) e) _, by simp [h.len], by simpa using h.most⟩
  simpa using h.blk.far (p := ⟨kb, i, none⟩) (fun e => h.blk.ne_ h.kbk (by decide) e) (.slice A l.length c)
theorem TreeAt.farInt (h : TreeAt w t kb tb vs keys tree) {g : Nat} {cs : Array Value} (hg : Bk w g 3 cs) (hne : tb ≠ g) (i : Nat) (u : Value) : TreeAt (w.setCell ⟨g, i, none⟩ u) t kb tb vs keys tree :=
  ⟨h.blk.far (p := ⟨g, i, none⟩) (fun e => h.blk.ne_ hg (by decide) e) _, h.kbk.far (p := ⟨g, i, none⟩) (fun e => h.kbk.ne_ hg (by decide) e) _, h.row.fr (fun v n xs ho => own_set ho (p := ⟨g, i, none⟩) (fun e => own_ne ho hg (by decide) e.symm) _), h.tbk.far (p := ⟨g, i, none⟩) hne _, h.len, h.most⟩
end
/-- All nodes of a tree are leaves' places. -/
def NodesOK (k : Nat) (l : List Nat) : Prop := ∀ x ∈ l, x < k
theorem NodesOK.set_ {k : Nat} {l : List Nat} (h : NodesOK k l) (i : Nat) {x : Nat} (hx : x < k) : NodesOK k (l.set i x) := fun y hy => by
  rcases List.mem_or_eq_of_mem_set hy with h1 | rfl
  · exact h y h1
  · exact hx
theorem NodesOK.at_ {k : Nat} {l : List Nat} (h : NodesOK k l) {i x : Nat} (hx : l[i]? = some x) : x < k := h x (List.mem_of_getElem? hx)
theorem replT_step {keys : List (List Nat)} {f n w : Nat} {tree : List Nat} (h : 1 ≤ n) (hf : n < f) : ∃ g, f = g + 1 ∧ n / 2 < g ∧ replT keys f n w tree = if beatsT keys (tree.getD n 0) w then replT keys g (n / 2) (tree.getD n 0) (tree.set n w) else replT keys g (n / 2) w tree := by
  obtain ⟨g, rfl⟩ : ∃ g, f = g + 1 := ⟨f - 1, by omega⟩
  exact ⟨g, rfl, by omega, by rw [replT, if_neg (by omega)]⟩
theorem replT_end {keys : List (List Nat)} {f w : Nat} {tree : List Nat} : replT keys f 0 w tree = (w, tree) := by
  cases f with
  | zero => rfl
  | succ f => rw [replT, if_pos (by omega)]
set_option maxRecDepth 100000 in
set_option maxHeartbeats 4000000 in
theorem replace_any (t kb tb : Nat) (vs : List Value) (keys : List (List Nat)) (tree key : List Nat) (A : Option Addr) (c : Nat) (w : World) (h : TreeAt w t kb tb vs keys tree) (hk : 1 ≤ keys.length) (hn : NodesOK keys.length tree) (hl : key.length ≤ 1000000) (ho : w.ownsRow 0 27 1 (.slice A key.length c) key.length (vu64 key)) :
    Calls Tryz.prog 138 #[.pointer (some ⟨t, 0, none⟩), .slice A key.length c] w fun e w' => e = .returned (.tuple #[]) ∧ (∃ vs', TreeAt w' t kb tb vs' (replaceT keys tree key).1 (replaceT keys tree key).2) ∧ Fr (fun k => k = kb ∨ k = tb) w w' := by
  obtain ⟨w0, hi, ci⟩ := tree_node h (a := 0) (by omega)
  have hw0 := hn.at_ hi
  obtain ⟨R, hR⟩ : ∃ R, R = replaceT keys tree key := ⟨_, rfl⟩
  rw [← hR]
  unfold replaceT at hR
  dsimp only at hR
  rw [show tree.getD 0 0 = w0 by rw [List.getD_eq_getElem?_getD, hi]; rfl] at hR
  have h2 := h.key w0 hl ho
  have f2 : Fr (fun k => k = kb ∨ k = tb) w (w.setCell ⟨kb, w0, none⟩ (.slice A key.length c)) := (Fr.refl _ w).setCell (p := ⟨kb, w0, none⟩) (.inl (.inl rfl)) _
  obtain ⟨x, B, cx, _, _, kx, _⟩ := tree_key h hw0
  have fz := h.kbk.free w0
  obtain ⟨c0, c1⟩ := two_cells h.blk
  have hm := h.most
  have hlt := h.blk.lt
  have hlk := h.kbk.lt
  have hlb := h.tbk.lt
  have hbk : t ≠ kb := h.blk.ne_ h.kbk (by decide)
  have hbt : tb ≠ kb := h.tbk.ne_ h.kbk (by decide)
  obtain ⟨k, hkk⟩ : ∃ k, k = keys.length := ⟨_, rfl⟩
  obtain ⟨k2, hk2⟩ : ∃ k2, k2 = keys.set w0 key := ⟨_, rfl⟩
  have hkl : k2.length = k := by rw [hk2, hkk]; simp
  rw [← hk2] at hR h2
  rw [← hkk] at c0 c1 hm hk hw0 hn hR
  obtain ⟨M, hM⟩ : ∃ M, M = replT k2 (k + 1) ((k + w0) / 2) w0 tree := ⟨_, rfl⟩
  rw [← hM] at hR
  have HM := hide hM
  have HR := hide hR
  have H2 := hide h2
  have F2 := hide f2
  have HN := hide hn
  have HKL := hide hkl
  clear h h2 f2 hn hi hR hM hk2 hkl hkk ho hl
  go_enter Tryz.func138, Tryz.ntmps138
  go_upto_region 3 with (fail)
  obtain ⟨W2, hW2⟩ : ∃ W2, W2 = w.setCell ⟨kb, w0, none⟩ (.slice A key.length c) := ⟨_, rfl⟩
  rw [← hW2] at H2 F2
  rw [← hW2]
  clear hW2 c0 c1 ci kx fz
  go_loopw [4, 5] (fun a b wr => ∃ (x n f : Nat) (tr : List Nat), a = .int .i64 x ∧ b = .int .i64 n ∧ x < k ∧ n < k ∧ n < f ∧ Hid (M = replT k2 f n x tr) ∧ Hid (NodesOK k tr) ∧ Hid (TreeAt wr t kb tb (vs.set w0 (.slice A key.length c)) k2 tr) ∧ Hid (Fr (fun k => k = kb ∨ k = tb) w wr)) (fun _ b _ => (intOf b).toNat)
  case atStart => exact ⟨w0, (k + w0) / 2, k + 1, tree, rfl, v_int (by omega), hw0, by omega, by omega, HM, HN, H2, F2⟩
  case round =>
    clear HM HN H2 F2
    obtain ⟨x, n, f, tr, rfl, rfl, hx, hnk, hnf, HM, HN, HT, HF⟩ := hrel
    by_cases hgo : 1 ≤ n
    · obtain ⟨g, rfl, hng, hst⟩ := replT_step (keys := k2) (w := x) (tree := tr) hgo hnf
      obtain ⟨y, hy, cy⟩ := tree_node HT.out (a := n) (by rw [HKL.out]; exact hnk)
      have hyk := HN.out.at_ hy
      rw [show tr.getD n 0 = y by rw [List.getD_eq_getElem?_getD, hy]; rfl] at hst
      have hM := HM.out
      rw [hst] at hM
      have hbe := fun W h => beats_any t kb tb (vs.set w0 (.slice A key.length c)) k2 tr y x W h (by rw [HKL.out]; exact hyk) (by rw [HKL.out]; exact hx)
      have hnok := HN.out.set_ n hx
      obtain ⟨c0, c1⟩ := two_cells HT.out.blk
      rw [HKL.out] at c0 c1
      have fz := HT.out.tbk.free n
      have hlt := HT.out.blk.lt
      have hlb := HT.out.tbk.lt
      obtain ⟨bb, hbb⟩ : ∃ bb, bb = beatsT k2 y x := ⟨_, rfl⟩
      rw [← hbb] at hbe hM
      have HBe := hide hbe
      have HNok := hide hnok
      have hgoI : (1 : Int) ≤ (n : Int) := by omega
      clear hst hbe hnok hbb hy HM hnf
      cases bb with
      | false =>
        rw [if_neg (by decide)] at hM
        have HM2 := hide hM
        clear hM
        go_wp2_with (go_at_call 179; refine (Calls.mono (HBe.out _ HT.out) ?_); rintro e w1 ⟨rfl, m, rfl⟩)
        exact ⟨⟨x, n / 2, g, tr, rfl, v_int (by omega), hx, by omega, hng, HM2, HN, hide (HT.out.drewN m), hide (HF.out.drewN m)⟩, by simp [intOf]; omega⟩
      | true =>
        rw [if_pos rfl] at hM
        have HM2 := hide hM
        clear hM
        go_wp2_with (go_at_call 179; refine (Calls.mono (HBe.out _ HT.out) ?_); rintro e w1 ⟨rfl, m, rfl⟩)
        go_region
        all_goals go_wp2_with fail
        all_goals exact ⟨⟨y, n / 2, g, tr.set n x, rfl, v_int (by omega), hyk, by omega, hng, HM2, HNok, hide ((HT.out.drewN _).put n x), hide ((HF.out.drewN _).setCell (p := ⟨tb, n, none⟩) (.inl (.inr rfl)) _)⟩, by simp [intOf]; omega⟩
    · have h0 : n = 0 := by omega
      subst h0
      have hM := HM.out
      rw [replT_end] at hM
      obtain ⟨y, hy, cy⟩ := tree_node HT.out (a := 0) (by rw [HKL.out]; exact hk)
      obtain ⟨c0, c1⟩ := two_cells HT.out.blk
      rw [HKL.out] at c0 c1
      have fz := HT.out.tbk.free 0
      have hlt := HT.out.blk.lt
      have hlb := HT.out.tbk.lt
      have HM2 := hide hM
      clear hM HM hy
      go_wp2_with fail
      go_end0
      have hR := HR.out
      rw [HM2.out] at hR
      rw [hR]
      exact ⟨rfl, ⟨_, HT.out.put 0 x⟩, HF.out.setCell (p := ⟨tb, 0, none⟩) (.inl (.inr rfl)) _⟩
end Go.Proofs.YtmopegpkoedgbaaGreatDoor
