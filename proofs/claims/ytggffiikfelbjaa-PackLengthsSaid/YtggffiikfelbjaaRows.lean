/-
  No cell of these rows narrows 'for every input' (looked for: loops, veiled, ifaces, maps, wideKeys, modest, calm, conditions, laid).
  DERIVED. THE GIVEN ROWS OF THIS SEAT. 9 by the template 'for every input the law returns true; each argument reads behind the call as it read before'; 0 by the template 'total and deterministic' (their statements: YtggffiikfelbjaaTotals.lean).
  GIVEN WITH THE SEED: the statements are not yours to turn. If you find one false, say at which input.
  Laid BY PROGRAM, IN A SANDBOX (cutbox-rows.mjs): the forced cells as the released guide's own fill.sh prints them over the translation a7e6df457791db47… (all of the seat's roots in one cut). By AI agents, Wed Nov 11 2026. No macro, syntax, notation, axiom, sorry.
-/
import Derived.Test.YtggffiikfelbjaaChecked
import GoSem.Claim
import GoSem.ClaimJoined
import GoSem.ClaimMapViews
import Derived.JoinedTies
import Derived.KernelRfl
namespace Go.Proofs.Ytggffiikfelbjaa
/- THE CELL 'sum', in the pinned program and in every row, IS THE sha256 OF THE DUMP (.gsa) THAT YtggffiikfelbjaaProg.lean LOADS. Nothing in Lean hashes anything: it is a label: what it is worth is what the hold of that sum in a sandbox is worth. -/
noncomputable def Try.pinned : Pinned := { name := "ytggffiikfelbjaa", sum := "a7e6df457791db47169d4bfa7b15de578695c5da1895ebcc5b8a64c442848d52", checked := Try.checked }
namespace Rows
def none {H : Type} : Left H := { results := [], args := [] }

/-- 'wringerlaw21.CanonCodes': WHATEVER THE INPUT: true; the input reads as it did. -/
def canonCodesSpec : ChangeSpec := { name := "canonCodes", fn := fun _ => fun
  | [d1, d2, d3] => { results := [.lit (.bool true)], args := [d1, d2, d3] }
  | _ => none }
def canonCodesRow : OpenClaim := { program := "ytggffiikfelbjaa", sum := "a7e6df457791db47169d4bfa7b15de578695c5da1895ebcc5b8a64c442848d52", func := "wringer/wringerlaw21.CanonCodes", spec := "canonCodes", apart := false }
def CanonCodesSaid : Prop := canonCodesRow.holds Try.pinned (OpenSpec.ofChange canonCodesSpec)

/-- ITS FALSE NEIGHBOUR: 'it returns false'. Refute it at one input. -/
def canonCodesWrong : ChangeSpec := { name := "canonCodes", fn := fun _ => fun
  | [d1, d2, d3] => { results := [.lit (.bool false)], args := [d1, d2, d3] }
  | _ => none }
def CanonCodesWrongFalsely : Prop := canonCodesRow.holds Try.pinned (OpenSpec.ofChange canonCodesWrong)

/-- 'wringerlaw21.CanonBits': WHATEVER THE INPUT: true; the input reads as it did. -/
def canonBitsSpec : ChangeSpec := { name := "canonBits", fn := fun _ => fun
  | [d1, d2, d3, d4] => { results := [.lit (.bool true)], args := [d1, d2, d3, d4] }
  | _ => none }
def canonBitsRow : OpenClaim := { program := "ytggffiikfelbjaa", sum := "a7e6df457791db47169d4bfa7b15de578695c5da1895ebcc5b8a64c442848d52", func := "wringer/wringerlaw21.CanonBits", spec := "canonBits", apart := false }
def CanonBitsSaid : Prop := canonBitsRow.holds Try.pinned (OpenSpec.ofChange canonBitsSpec)

/-- ITS FALSE NEIGHBOUR: 'it returns false'. Refute it at one input. -/
def canonBitsWrong : ChangeSpec := { name := "canonBits", fn := fun _ => fun
  | [d1, d2, d3, d4] => { results := [.lit (.bool false)], args := [d1, d2, d3, d4] }
  | _ => none }
def CanonBitsWrongFalsely : Prop := canonBitsRow.holds Try.pinned (OpenSpec.ofChange canonBitsWrong)

/-- 'wringerlaw21.CanonApart': WHATEVER THE INPUT: true; the input reads as it did. -/
def canonApartSpec : ChangeSpec := { name := "canonApart", fn := fun _ => fun
  | [d] => { results := [.lit (.bool true)], args := [d] }
  | _ => none }
def canonApartRow : OpenClaim := { program := "ytggffiikfelbjaa", sum := "a7e6df457791db47169d4bfa7b15de578695c5da1895ebcc5b8a64c442848d52", func := "wringer/wringerlaw21.CanonApart", spec := "canonApart", apart := false }
def CanonApartSaid : Prop := canonApartRow.holds Try.pinned (OpenSpec.ofChange canonApartSpec)

/-- ITS FALSE NEIGHBOUR: 'it returns false'. Refute it at one input. -/
def canonApartWrong : ChangeSpec := { name := "canonApart", fn := fun _ => fun
  | [d] => { results := [.lit (.bool false)], args := [d] }
  | _ => none }
def CanonApartWrongFalsely : Prop := canonApartRow.holds Try.pinned (OpenSpec.ofChange canonApartWrong)

/-- 'wringerlaw21.CanonBack': WHATEVER THE INPUT: true; the input reads as it did. -/
def canonBackSpec : ChangeSpec := { name := "canonBack", fn := fun _ => fun
  | [d1, d2, d3] => { results := [.lit (.bool true)], args := [d1, d2, d3] }
  | _ => none }
def canonBackRow : OpenClaim := { program := "ytggffiikfelbjaa", sum := "a7e6df457791db47169d4bfa7b15de578695c5da1895ebcc5b8a64c442848d52", func := "wringer/wringerlaw21.CanonBack", spec := "canonBack", apart := false }
def CanonBackSaid : Prop := canonBackRow.holds Try.pinned (OpenSpec.ofChange canonBackSpec)

/-- ITS FALSE NEIGHBOUR: 'it returns false'. Refute it at one input. -/
def canonBackWrong : ChangeSpec := { name := "canonBack", fn := fun _ => fun
  | [d1, d2, d3] => { results := [.lit (.bool false)], args := [d1, d2, d3] }
  | _ => none }
def CanonBackWrongFalsely : Prop := canonBackRow.holds Try.pinned (OpenSpec.ofChange canonBackWrong)

/-- 'wringerlaw20.PackLengths': WHATEVER THE INPUT: true; the input reads as it did. -/
def packLengthsSpec : ChangeSpec := { name := "packLengths", fn := fun _ => fun
  | [d1, d2, d3] => { results := [.lit (.bool true)], args := [d1, d2, d3] }
  | _ => none }
def packLengthsRow : OpenClaim := { program := "ytggffiikfelbjaa", sum := "a7e6df457791db47169d4bfa7b15de578695c5da1895ebcc5b8a64c442848d52", func := "wringer/wringerlaw20.PackLengths", spec := "packLengths", unfollowed := true, recurses := true, apart := false }
def PackLengthsSaid : Prop := packLengthsRow.holds Try.pinned (OpenSpec.ofChange packLengthsSpec)

/-- ITS FALSE NEIGHBOUR: 'it returns false'. Refute it at one input. -/
def packLengthsWrong : ChangeSpec := { name := "packLengths", fn := fun _ => fun
  | [d1, d2, d3] => { results := [.lit (.bool false)], args := [d1, d2, d3] }
  | _ => none }
def PackLengthsWrongFalsely : Prop := packLengthsRow.holds Try.pinned (OpenSpec.ofChange packLengthsWrong)

/-- 'wringerlaw20.PackFull': WHATEVER THE INPUT: true; the input reads as it did. -/
def packFullSpec : ChangeSpec := { name := "packFull", fn := fun _ => fun
  | [d1, d2] => { results := [.lit (.bool true)], args := [d1, d2] }
  | _ => none }
def packFullRow : OpenClaim := { program := "ytggffiikfelbjaa", sum := "a7e6df457791db47169d4bfa7b15de578695c5da1895ebcc5b8a64c442848d52", func := "wringer/wringerlaw20.PackFull", spec := "packFull", unfollowed := true, recurses := true, apart := false }
def PackFullSaid : Prop := packFullRow.holds Try.pinned (OpenSpec.ofChange packFullSpec)

/-- ITS FALSE NEIGHBOUR: 'it returns false'. Refute it at one input. -/
def packFullWrong : ChangeSpec := { name := "packFull", fn := fun _ => fun
  | [d1, d2] => { results := [.lit (.bool false)], args := [d1, d2] }
  | _ => none }
def PackFullWrongFalsely : Prop := packFullRow.holds Try.pinned (OpenSpec.ofChange packFullWrong)

/-- 'wringerlaw20.PackLeast': WHATEVER THE INPUT: true; the input reads as it did. -/
def packLeastSpec : ChangeSpec := { name := "packLeast", fn := fun _ => fun
  | [d1, d2, d3] => { results := [.lit (.bool true)], args := [d1, d2, d3] }
  | _ => none }
def packLeastRow : OpenClaim := { program := "ytggffiikfelbjaa", sum := "a7e6df457791db47169d4bfa7b15de578695c5da1895ebcc5b8a64c442848d52", func := "wringer/wringerlaw20.PackLeast", spec := "packLeast", unfollowed := true, recurses := true, apart := false }
def PackLeastSaid : Prop := packLeastRow.holds Try.pinned (OpenSpec.ofChange packLeastSpec)

/-- ITS FALSE NEIGHBOUR: 'it returns false'. Refute it at one input. -/
def packLeastWrong : ChangeSpec := { name := "packLeast", fn := fun _ => fun
  | [d1, d2, d3] => { results := [.lit (.bool false)], args := [d1, d2, d3] }
  | _ => none }
def PackLeastWrongFalsely : Prop := packLeastRow.holds Try.pinned (OpenSpec.ofChange packLeastWrong)

/-- 'wringerlaw20.PackOrder': WHATEVER THE INPUT: true; the input reads as it did. -/
def packOrderSpec : ChangeSpec := { name := "packOrder", fn := fun _ => fun
  | [d1, d2] => { results := [.lit (.bool true)], args := [d1, d2] }
  | _ => none }
def packOrderRow : OpenClaim := { program := "ytggffiikfelbjaa", sum := "a7e6df457791db47169d4bfa7b15de578695c5da1895ebcc5b8a64c442848d52", func := "wringer/wringerlaw20.PackOrder", spec := "packOrder", unfollowed := true, recurses := true, apart := false }
def PackOrderSaid : Prop := packOrderRow.holds Try.pinned (OpenSpec.ofChange packOrderSpec)

/-- ITS FALSE NEIGHBOUR: 'it returns false'. Refute it at one input. -/
def packOrderWrong : ChangeSpec := { name := "packOrder", fn := fun _ => fun
  | [d1, d2] => { results := [.lit (.bool false)], args := [d1, d2] }
  | _ => none }
def PackOrderWrongFalsely : Prop := packOrderRow.holds Try.pinned (OpenSpec.ofChange packOrderWrong)

/-- 'wringerlaw21.CanonLengths': WHATEVER THE INPUT: true; the input reads as it did. -/
def canonLengthsSpec : ChangeSpec := { name := "canonLengths", fn := fun _ => fun
  | [d] => { results := [.lit (.bool true)], args := [d] }
  | _ => none }
def canonLengthsRow : OpenClaim := { program := "ytggffiikfelbjaa", sum := "a7e6df457791db47169d4bfa7b15de578695c5da1895ebcc5b8a64c442848d52", func := "wringer/wringerlaw21.CanonLengths", spec := "canonLengths", unfollowed := true, recurses := true, apart := false }
def CanonLengthsSaid : Prop := canonLengthsRow.holds Try.pinned (OpenSpec.ofChange canonLengthsSpec)

/-- ITS FALSE NEIGHBOUR: 'it returns false'. Refute it at one input. -/
def canonLengthsWrong : ChangeSpec := { name := "canonLengths", fn := fun _ => fun
  | [d] => { results := [.lit (.bool false)], args := [d] }
  | _ => none }
def CanonLengthsWrongFalsely : Prop := canonLengthsRow.holds Try.pinned (OpenSpec.ofChange canonLengthsWrong)

/- THE SECOND FORM. 'bulk': how many values and letters a reading holds, each counted each time it is reached (what is shared counts as often as it is met; a slice's spare places count too). A statement '..UptoSaid' is the law's where the arguments, and the package variables that the reading takes, are together of bulk at most 1048576: NARROWER than '..Said'. Prove '..Said' where nothing that the law and all that it calls make is longer than what came in: it says more and counts as full. Else prove '..UptoSaid'. A law counts once. -/
mutual
def uptoBulk {H : Type} : DataW H → Nat
  | .lit (.string bytes) => bytes.length + 1
  | .lit _ => 1
  | .nil => 1
  | .ptr d => uptoBulk d + 1
  | .slice elems spare => uptoBulkAll elems + uptoBulkAll spare + 1
  | .agg parts => uptoBulkAll parts + 1
  | .iface _ d => uptoBulk d + 1
  | .map entries => uptoBulkEntries entries + 1
  | .held _ => 1
def uptoBulkAll {H : Type} : List (DataW H) → Nat
  | [] => 0
  | d :: r => uptoBulk d + uptoBulkAll r
def uptoBulkEntries {H : Type} : List (Lit × DataW H) → Nat
  | [] => 0
  | x :: r => uptoBulkEntry x + uptoBulkEntries r
def uptoBulkEntry {H : Type} : Lit × DataW H → Nat
  | (.string bytes, d) => bytes.length + uptoBulk d + 1
  | (_, d) => uptoBulk d + 1
 end
def uptoSmall : (H : Type) → List (DataW H) → Bool := fun _ ds => decide (uptoBulkAll ds ≤ 1048576)
def OpenSpec.upto (s : _root_.Go.ChangeSpec) : _root_.Go.OpenSpec := { _root_.Go.OpenSpec.ofChange s with cond := some uptoSmall }

/-- 'wringerlaw21.CanonCodes', WHERE WHAT IT READS IS OF BULK AT MOST 1048576: true; the input reads as it did. -/
def canonCodesUptoRow : OpenClaim := { program := "ytggffiikfelbjaa", sum := "a7e6df457791db47169d4bfa7b15de578695c5da1895ebcc5b8a64c442848d52", func := "wringer/wringerlaw21.CanonCodes", spec := "canonCodes", apart := false, narrowed := true }
def CanonCodesUptoSaid : Prop := canonCodesUptoRow.holds Try.pinned (OpenSpec.upto canonCodesSpec)

/-- 'wringerlaw21.CanonBits', WHERE WHAT IT READS IS OF BULK AT MOST 1048576: true; the input reads as it did. -/
def canonBitsUptoRow : OpenClaim := { program := "ytggffiikfelbjaa", sum := "a7e6df457791db47169d4bfa7b15de578695c5da1895ebcc5b8a64c442848d52", func := "wringer/wringerlaw21.CanonBits", spec := "canonBits", apart := false, narrowed := true }
def CanonBitsUptoSaid : Prop := canonBitsUptoRow.holds Try.pinned (OpenSpec.upto canonBitsSpec)

/-- 'wringerlaw21.CanonApart', WHERE WHAT IT READS IS OF BULK AT MOST 1048576: true; the input reads as it did. -/
def canonApartUptoRow : OpenClaim := { program := "ytggffiikfelbjaa", sum := "a7e6df457791db47169d4bfa7b15de578695c5da1895ebcc5b8a64c442848d52", func := "wringer/wringerlaw21.CanonApart", spec := "canonApart", apart := false, narrowed := true }
def CanonApartUptoSaid : Prop := canonApartUptoRow.holds Try.pinned (OpenSpec.upto canonApartSpec)

/-- 'wringerlaw21.CanonBack', WHERE WHAT IT READS IS OF BULK AT MOST 1048576: true; the input reads as it did. -/
def canonBackUptoRow : OpenClaim := { program := "ytggffiikfelbjaa", sum := "a7e6df457791db47169d4bfa7b15de578695c5da1895ebcc5b8a64c442848d52", func := "wringer/wringerlaw21.CanonBack", spec := "canonBack", apart := false, narrowed := true }
def CanonBackUptoSaid : Prop := canonBackUptoRow.holds Try.pinned (OpenSpec.upto canonBackSpec)

/-- 'wringerlaw20.PackLengths', WHERE WHAT IT READS IS OF BULK AT MOST 1048576: true; the input reads as it did. -/
def packLengthsUptoRow : OpenClaim := { program := "ytggffiikfelbjaa", sum := "a7e6df457791db47169d4bfa7b15de578695c5da1895ebcc5b8a64c442848d52", func := "wringer/wringerlaw20.PackLengths", spec := "packLengths", unfollowed := true, recurses := true, apart := false, narrowed := true }
def PackLengthsUptoSaid : Prop := packLengthsUptoRow.holds Try.pinned (OpenSpec.upto packLengthsSpec)

/-- 'wringerlaw20.PackFull', WHERE WHAT IT READS IS OF BULK AT MOST 1048576: true; the input reads as it did. -/
def packFullUptoRow : OpenClaim := { program := "ytggffiikfelbjaa", sum := "a7e6df457791db47169d4bfa7b15de578695c5da1895ebcc5b8a64c442848d52", func := "wringer/wringerlaw20.PackFull", spec := "packFull", unfollowed := true, recurses := true, apart := false, narrowed := true }
def PackFullUptoSaid : Prop := packFullUptoRow.holds Try.pinned (OpenSpec.upto packFullSpec)

/-- 'wringerlaw20.PackLeast', WHERE WHAT IT READS IS OF BULK AT MOST 1048576: true; the input reads as it did. -/
def packLeastUptoRow : OpenClaim := { program := "ytggffiikfelbjaa", sum := "a7e6df457791db47169d4bfa7b15de578695c5da1895ebcc5b8a64c442848d52", func := "wringer/wringerlaw20.PackLeast", spec := "packLeast", unfollowed := true, recurses := true, apart := false, narrowed := true }
def PackLeastUptoSaid : Prop := packLeastUptoRow.holds Try.pinned (OpenSpec.upto packLeastSpec)

/-- 'wringerlaw20.PackOrder', WHERE WHAT IT READS IS OF BULK AT MOST 1048576: true; the input reads as it did. -/
def packOrderUptoRow : OpenClaim := { program := "ytggffiikfelbjaa", sum := "a7e6df457791db47169d4bfa7b15de578695c5da1895ebcc5b8a64c442848d52", func := "wringer/wringerlaw20.PackOrder", spec := "packOrder", unfollowed := true, recurses := true, apart := false, narrowed := true }
def PackOrderUptoSaid : Prop := packOrderUptoRow.holds Try.pinned (OpenSpec.upto packOrderSpec)

/-- 'wringerlaw21.CanonLengths', WHERE WHAT IT READS IS OF BULK AT MOST 1048576: true; the input reads as it did. -/
def canonLengthsUptoRow : OpenClaim := { program := "ytggffiikfelbjaa", sum := "a7e6df457791db47169d4bfa7b15de578695c5da1895ebcc5b8a64c442848d52", func := "wringer/wringerlaw21.CanonLengths", spec := "canonLengths", unfollowed := true, recurses := true, apart := false, narrowed := true }
def CanonLengthsUptoSaid : Prop := canonLengthsUptoRow.holds Try.pinned (OpenSpec.upto canonLengthsSpec)

end Rows
end Go.Proofs.Ytggffiikfelbjaa
