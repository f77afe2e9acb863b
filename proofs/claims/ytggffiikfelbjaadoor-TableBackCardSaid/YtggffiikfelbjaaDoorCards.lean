/-
  DERIVED. GIVEN WITH THE SEED: THE CARDS: each row of YtggffiikfelbjaaDoorRows.lean that lists a variable, with what it lists TIED to the program's text (the seventh form; the later family's looks); each row that meets fmt, with fmt's text TOLD by the authors' own Lean function (tested against real Go, not proved from fmt's source: count such statements apart). THE CARD IS WHAT COUNTS. Prove the row's statement (the work); the ties are given (YtggffiikfelbjaaDoorTie.lean); close each card by the builder's one call (the guide's Derived/Test/ToyasCard.lean, 'card_holds'). Laid BY PROGRAM, IN A SANDBOX (cutbox-door.mjs). By AI agents, Wed Nov 11 2026. No macro, syntax, notation, axiom, sorry.
-/
import Derived.Test.YtggffiikfelbjaaDoorRows
import GoSem.ClaimSeven
namespace Go.Proofs.YtggffiikfelbjaaDoor
namespace Rows

/-- THE TIED CARD OF 'wringerlaw22.TableBack'. -/
def tableBackCard : Claim7 := { stood := { row := tableBackRow, standIns := [], harness := (true, "b30d10915e5bc79e9b584558a202dc5825164e25551635e7eb1bb013beca852f"), looks := true }, kinds := [], alts := [], laidByText := true, laidKinds := [.sentinel, .sentinel], laidTests := true, laidLooks := .later }
def TableBackCardSaid : Prop := Claim7.holds Tryd.pinned (.plain (OpenSpec.ofChange tableBackSpec)) tableBackCard

/-- THE TIED CARD OF 'wringerlaw22.TableCut'. -/
def tableCutCard : Claim7 := { stood := { row := tableCutRow, standIns := [], harness := (true, "b30d10915e5bc79e9b584558a202dc5825164e25551635e7eb1bb013beca852f"), looks := true }, kinds := [], alts := [], laidByText := true, laidKinds := [.sentinel, .sentinel], laidTests := true, laidLooks := .later }
def TableCutCardSaid : Prop := Claim7.holds Tryd.pinned (.plain (OpenSpec.ofChange tableCutSpec)) tableCutCard

/-- THE SECOND FORM's CARD OF 'wringerlaw22.TableBack'. -/
def tableBackUptoCard : Claim7 := { stood := { row := tableBackUptoRow, standIns := [], harness := (true, "b30d10915e5bc79e9b584558a202dc5825164e25551635e7eb1bb013beca852f"), looks := true }, kinds := [], alts := [], laidByText := true, laidKinds := [.sentinel, .sentinel], laidTests := true, laidLooks := .later }
def TableBackUptoCardSaid : Prop := Claim7.holds Tryd.pinned (.plain (OpenSpec.upto tableBackSpec)) tableBackUptoCard

/-- THE SECOND FORM's CARD OF 'wringerlaw22.TableCut'. -/
def tableCutUptoCard : Claim7 := { stood := { row := tableCutUptoRow, standIns := [], harness := (true, "b30d10915e5bc79e9b584558a202dc5825164e25551635e7eb1bb013beca852f"), looks := true }, kinds := [], alts := [], laidByText := true, laidKinds := [.sentinel, .sentinel], laidTests := true, laidLooks := .later }
def TableCutUptoCardSaid : Prop := Claim7.holds Tryd.pinned (.plain (OpenSpec.upto tableCutSpec)) tableCutUptoCard
end Rows
end Go.Proofs.YtggffiikfelbjaaDoor
