/-
  NARROWER THAN 'FOR EVERY INPUT', by the rows' own cells (each row's printed sentence says how): TableBack: laid · TableCut: laid.
  DERIVED. THE GIVEN ROWS OF THIS SEAT. 2 by the template 'for every input the law returns true; each argument reads behind the call as it read before'; 0 by the template 'total and deterministic' (their statements: YtggffiikfelbjaaDoorTotals.lean).
  GIVEN WITH THE SEED: the statements are not yours to turn. If you find one false, say at which input.
  Laid BY PROGRAM, IN A SANDBOX (cutbox-rows.mjs): the forced cells as the released guide's own fill.sh prints them over the translation 87e0ccc516935dad… (all of the seat's roots in one cut). By AI agents, Wed Nov 11 2026. No macro, syntax, notation, axiom, sorry.
-/
import Derived.Test.YtggffiikfelbjaaDoorChecked
import GoSem.Claim
import GoSem.ClaimJoined
import GoSem.ClaimMapViews
import Derived.JoinedTies
import Derived.KernelRfl
namespace Go.Proofs.YtggffiikfelbjaaDoor
/- THE CELL 'sum', in the pinned program and in every row, IS THE sha256 OF THE DUMP (.gsa) THAT YtggffiikfelbjaaDoorProg.lean LOADS. Nothing in Lean hashes anything: it is a label: what it is worth is what the hold of that sum in a sandbox is worth. -/
noncomputable def Tryd.pinned : Pinned := { name := "ytggffiikfelbjaadoor", sum := "87e0ccc516935dada789d49720d153759a14298a286d5d27e0d3614708587d2e", checked := Tryd.checked }
namespace Rows
def none {H : Type} : Left H := { results := [], args := [] }

/- WHAT THE LISTED PACKAGE-LEVEL VARIABLES READ AS WHEN THE CALL BEGINS. Each datum BY PROGRAM (the guide's laid-datum.mjs) off the statement by which the dump's own 'gosem.cut.vars' lays the variable. In a bare row this is a premise. The card (YtggffiikfelbjaaDoorCards.lean) ties it to the program's text. -/
def laid_wringer_table_errShort {H : Type} : DataW H := .iface "*errors.errorString" (.ptr (.agg [.lit (.string [116, 104, 101, 32, 98, 105, 116, 115, 32, 101, 110, 100])]))
def laid_wringer_table_errCode {H : Type} : DataW H := .iface "*errors.errorString" (.ptr (.agg [.lit (.string [110, 111, 32, 116, 97, 98, 108, 101])]))

/-- 'wringerlaw22.TableBack': WHATEVER THE INPUT: true; the input reads as it did. -/
def tableBackSpec : ChangeSpec := { name := "tableBack", fn := fun _ => fun
  | [d1, d2, d3, d4] => { results := [.lit (.bool true)], args := [d1, d2, d3, d4] }
  | _ => none }
def tableBackRow : OpenClaim := { program := "ytggffiikfelbjaadoor", sum := "87e0ccc516935dada789d49720d153759a14298a286d5d27e0d3614708587d2e", func := "wringer/wringerlaw22.TableBack", spec := "tableBack", inPlace := ["internal/reflectlite.TypeOf"], unfollowed := true, recurses := true, named := ["wringer/table.errShort", "wringer/table.errCode"], apart := false, laid := [("wringer/table.errShort", laid_wringer_table_errShort), ("wringer/table.errCode", laid_wringer_table_errCode)] }
def TableBackSaid : Prop := tableBackRow.holds Tryd.pinned (OpenSpec.ofChange tableBackSpec)

/-- ITS FALSE NEIGHBOUR: 'it returns false'. Refute it at one input. -/
def tableBackWrong : ChangeSpec := { name := "tableBack", fn := fun _ => fun
  | [d1, d2, d3, d4] => { results := [.lit (.bool false)], args := [d1, d2, d3, d4] }
  | _ => none }
def TableBackWrongFalsely : Prop := tableBackRow.holds Tryd.pinned (OpenSpec.ofChange tableBackWrong)

/-- 'wringerlaw22.TableCut': WHATEVER THE INPUT: true; the input reads as it did. -/
def tableCutSpec : ChangeSpec := { name := "tableCut", fn := fun _ => fun
  | [d1, d2] => { results := [.lit (.bool true)], args := [d1, d2] }
  | _ => none }
def tableCutRow : OpenClaim := { program := "ytggffiikfelbjaadoor", sum := "87e0ccc516935dada789d49720d153759a14298a286d5d27e0d3614708587d2e", func := "wringer/wringerlaw22.TableCut", spec := "tableCut", inPlace := ["internal/reflectlite.TypeOf"], unfollowed := true, recurses := true, named := ["wringer/table.errShort", "wringer/table.errCode"], apart := false, laid := [("wringer/table.errShort", laid_wringer_table_errShort), ("wringer/table.errCode", laid_wringer_table_errCode)] }
def TableCutSaid : Prop := tableCutRow.holds Tryd.pinned (OpenSpec.ofChange tableCutSpec)

/-- ITS FALSE NEIGHBOUR: 'it returns false'. Refute it at one input. -/
def tableCutWrong : ChangeSpec := { name := "tableCut", fn := fun _ => fun
  | [d1, d2] => { results := [.lit (.bool false)], args := [d1, d2] }
  | _ => none }
def TableCutWrongFalsely : Prop := tableCutRow.holds Tryd.pinned (OpenSpec.ofChange tableCutWrong)

/- THE SECOND FORM. 'bulk': how many values and letters a reading holds, each counted each time it is reached (what is shared counts as often as it is met; a slice's spare places count too). A statement '..UptoSaid' is the law's where the arguments, and the package variables that the reading takes, are together of bulk at most 1048576: NARROWER than '..Said'. Prove '..Said' where nothing that the law and all that it calls make is longer than what came in: it says more and counts as full. Else prove '..UptoSaid'. A law counts once. -/
mutual
def uptoBulk {H : Type} : DataW H → Nat
  | .lit (.string bytes) => bytes.length + 1
  | .lit _ => 1
  | .nil => 1
  | .ptr d => uptoBulk d + 1
  | .slice elems spare => uptoBulkAll elems + uptoBulkAll spare + 1
  | .agg parts => uptoBulkAll parts + 1
  | .iface _ d => uptoBulk d + 1
  | .map entries => uptoBulkEntries entries + 1
  | .held _ => 1
def uptoBulkAll {H : Type} : List (DataW H) → Nat
  | [] => 0
  | d :: r => uptoBulk d + uptoBulkAll r
def uptoBulkEntries {H : Type} : List (Lit × DataW H) → Nat
  | [] => 0
  | x :: r => uptoBulkEntry x + uptoBulkEntries r
def uptoBulkEntry {H : Type} : Lit × DataW H → Nat
  | (.string bytes, d) => bytes.length + uptoBulk d + 1
  | (_, d) => uptoBulk d + 1
 end
def uptoSmall : (H : Type) → List (DataW H) → Bool := fun _ ds => decide (uptoBulkAll ds ≤ 1048576)
def OpenSpec.upto (s : _root_.Go.ChangeSpec) : _root_.Go.OpenSpec := { _root_.Go.OpenSpec.ofChange s with cond := some uptoSmall }

/-- 'wringerlaw22.TableBack', WHERE WHAT IT READS IS OF BULK AT MOST 1048576: true; the input reads as it did. -/
def tableBackUptoRow : OpenClaim := { program := "ytggffiikfelbjaadoor", sum := "87e0ccc516935dada789d49720d153759a14298a286d5d27e0d3614708587d2e", func := "wringer/wringerlaw22.TableBack", spec := "tableBack", inPlace := ["internal/reflectlite.TypeOf"], unfollowed := true, recurses := true, named := ["wringer/table.errShort", "wringer/table.errCode"], apart := false, laid := [("wringer/table.errShort", laid_wringer_table_errShort), ("wringer/table.errCode", laid_wringer_table_errCode)], narrowed := true }
def TableBackUptoSaid : Prop := tableBackUptoRow.holds Tryd.pinned (OpenSpec.upto tableBackSpec)

/-- 'wringerlaw22.TableCut', WHERE WHAT IT READS IS OF BULK AT MOST 1048576: true; the input reads as it did. -/
def tableCutUptoRow : OpenClaim := { program := "ytggffiikfelbjaadoor", sum := "87e0ccc516935dada789d49720d153759a14298a286d5d27e0d3614708587d2e", func := "wringer/wringerlaw22.TableCut", spec := "tableCut", inPlace := ["internal/reflectlite.TypeOf"], unfollowed := true, recurses := true, named := ["wringer/table.errShort", "wringer/table.errCode"], apart := false, laid := [("wringer/table.errShort", laid_wringer_table_errShort), ("wringer/table.errCode", laid_wringer_table_errCode)], narrowed := true }
def TableCutUptoSaid : Prop := tableCutUptoRow.holds Tryd.pinned (OpenSpec.upto tableCutSpec)

end Rows
end Go.Proofs.YtggffiikfelbjaaDoor
