/-
  DERIVED. GIVEN WITH THE SEED: THE CARDS: each row of YtmopegpkoedgbaaGreatDoorRows.lean that lists a variable, with what it lists TIED to the program's text (the seventh form; the later family's looks); each row that meets fmt, with fmt's text TOLD by the authors' own Lean function (tested against real Go, not proved from fmt's source: count such statements apart). THE CARD IS WHAT COUNTS. Prove the row's statement (the work); the ties are given (YtmopegpkoedgbaaGreatDoorTie.lean); close each card by the builder's one call (the guide's Derived/Test/ToyasCard.lean, 'card_holds'). Laid BY PROGRAM, IN A SANDBOX (cutbox-door.mjs). By AI agents, Wed Nov 11 2026. No macro, syntax, notation, axiom, sorry.
-/
import Derived.Test.YtmopegpkoedgbaaGreatDoorRows
import GoSem.ClaimSeven
namespace Go.Proofs.YtmopegpkoedgbaaGreatDoor
namespace Rows

/-- THE TIED CARD OF 'wringerlaw07.FlowBudget'. -/
def flowBudgetCard : Claim7 := { stood := { row := flowBudgetRow, standIns := [], harness := (true, "430d926ed34f588629b593105b7fd0769059991c23445feb871595bbae5d1c6d"), looks := true }, kinds := [], alts := [], laidByText := true, laidKinds := [.data, .handle, .pinned], laidTests := true, laidLooks := .later }
def FlowBudgetCardSaid : Prop := Claim7.holds Tryz.pinned (.plain (OpenSpec.ofChange flowBudgetSpec)) flowBudgetCard

/-- THE TIED CARD OF 'wringerlaw07.FlowBack'. -/
def flowBackCard : Claim7 := { stood := { row := flowBackRow, standIns := [], harness := (true, "430d926ed34f588629b593105b7fd0769059991c23445feb871595bbae5d1c6d"), looks := true }, kinds := [], alts := [], laidByText := true, laidKinds := [.data, .handle, .pinned], laidTests := true, laidLooks := .later }
def FlowBackCardSaid : Prop := Claim7.holds Tryz.pinned (.plain (OpenSpec.ofChange flowBackSpec)) flowBackCard

/-- THE TIED CARD OF 'wringerlaw10.MergeTells'. -/
def mergeTellsCard : Claim7 := { stood := { row := mergeTellsRow, standIns := [], harness := (true, "430d926ed34f588629b593105b7fd0769059991c23445feb871595bbae5d1c6d"), looks := true }, kinds := [], alts := [], laidByText := true, laidKinds := [.data, .handle, .sentinel, .pinned], laidTests := true, laidLooks := .later }
def MergeTellsCardSaid : Prop := Claim7.holds Tryz.pinned (.plain (OpenSpec.ofChange mergeTellsSpec)) mergeTellsCard

/-- THE TIED CARD OF 'wringerlaw10.MergePasses'. -/
def mergePassesCard : Claim7 := { stood := { row := mergePassesRow, standIns := [], harness := (true, "430d926ed34f588629b593105b7fd0769059991c23445feb871595bbae5d1c6d"), looks := true }, kinds := [], alts := [], laidByText := true, laidKinds := [.data, .handle, .sentinel, .pinned], laidTests := true, laidLooks := .later }
def MergePassesCardSaid : Prop := Claim7.holds Tryz.pinned (.plain (OpenSpec.ofChange mergePassesSpec)) mergePassesCard

/-- THE TIED CARD OF 'wringerlaw10.MergeAll'. -/
def mergeAllCard : Claim7 := { stood := { row := mergeAllRow, standIns := [], harness := (true, "430d926ed34f588629b593105b7fd0769059991c23445feb871595bbae5d1c6d"), looks := true }, kinds := [], alts := [], laidByText := true, laidKinds := [.data, .handle, .sentinel, .pinned], laidTests := true, laidLooks := .later }
def MergeAllCardSaid : Prop := Claim7.holds Tryz.pinned (.plain (OpenSpec.ofChange mergeAllSpec)) mergeAllCard

/-- THE TIED CARD OF 'wringerlaw09.RunsTells'. -/
def runsTellsCard : Claim7 := { stood := { row := runsTellsRow, standIns := [], harness := (true, "430d926ed34f588629b593105b7fd0769059991c23445feb871595bbae5d1c6d"), looks := true }, kinds := [], alts := [], laidByText := true, laidKinds := [.data, .handle, .pinned], laidTests := true, laidLooks := .later }
def RunsTellsCardSaid : Prop := Claim7.holds Tryz.pinned (.plain (OpenSpec.ofChange runsTellsSpec)) runsTellsCard

/-- THE TIED CARD OF 'wringerlaw09.RunsCosts'. -/
def runsCostsCard : Claim7 := { stood := { row := runsCostsRow, standIns := [], harness := (true, "430d926ed34f588629b593105b7fd0769059991c23445feb871595bbae5d1c6d"), looks := true }, kinds := [], alts := [], laidByText := true, laidKinds := [.data, .handle, .pinned], laidTests := true, laidLooks := .later }
def RunsCostsCardSaid : Prop := Claim7.holds Tryz.pinned (.plain (OpenSpec.ofChange runsCostsSpec)) runsCostsCard

/-- THE TIED CARD OF 'wringerlaw09.RunsAll'. -/
def runsAllCard : Claim7 := { stood := { row := runsAllRow, standIns := [], harness := (true, "430d926ed34f588629b593105b7fd0769059991c23445feb871595bbae5d1c6d"), looks := true }, kinds := [], alts := [], laidByText := true, laidKinds := [.data, .handle, .pinned], laidTests := true, laidLooks := .later }
def RunsAllCardSaid : Prop := Claim7.holds Tryz.pinned (.plain (OpenSpec.ofChange runsAllSpec)) runsAllCard

/-- THE SECOND FORM's CARD OF 'wringerlaw07.FlowBudget'. -/
def flowBudgetUptoCard : Claim7 := { stood := { row := flowBudgetUptoRow, standIns := [], harness := (true, "430d926ed34f588629b593105b7fd0769059991c23445feb871595bbae5d1c6d"), looks := true }, kinds := [], alts := [], laidByText := true, laidKinds := [.data, .handle, .pinned], laidTests := true, laidLooks := .later }
def FlowBudgetUptoCardSaid : Prop := Claim7.holds Tryz.pinned (.plain (OpenSpec.upto flowBudgetSpec)) flowBudgetUptoCard

/-- THE SECOND FORM's CARD OF 'wringerlaw07.FlowBack'. -/
def flowBackUptoCard : Claim7 := { stood := { row := flowBackUptoRow, standIns := [], harness := (true, "430d926ed34f588629b593105b7fd0769059991c23445feb871595bbae5d1c6d"), looks := true }, kinds := [], alts := [], laidByText := true, laidKinds := [.data, .handle, .pinned], laidTests := true, laidLooks := .later }
def FlowBackUptoCardSaid : Prop := Claim7.holds Tryz.pinned (.plain (OpenSpec.upto flowBackSpec)) flowBackUptoCard

/-- THE SECOND FORM's CARD OF 'wringerlaw10.MergeTells'. -/
def mergeTellsUptoCard : Claim7 := { stood := { row := mergeTellsUptoRow, standIns := [], harness := (true, "430d926ed34f588629b593105b7fd0769059991c23445feb871595bbae5d1c6d"), looks := true }, kinds := [], alts := [], laidByText := true, laidKinds := [.data, .handle, .sentinel, .pinned], laidTests := true, laidLooks := .later }
def MergeTellsUptoCardSaid : Prop := Claim7.holds Tryz.pinned (.plain (OpenSpec.upto mergeTellsSpec)) mergeTellsUptoCard

/-- THE SECOND FORM's CARD OF 'wringerlaw10.MergePasses'. -/
def mergePassesUptoCard : Claim7 := { stood := { row := mergePassesUptoRow, standIns := [], harness := (true, "430d926ed34f588629b593105b7fd0769059991c23445feb871595bbae5d1c6d"), looks := true }, kinds := [], alts := [], laidByText := true, laidKinds := [.data, .handle, .sentinel, .pinned], laidTests := true, laidLooks := .later }
def MergePassesUptoCardSaid : Prop := Claim7.holds Tryz.pinned (.plain (OpenSpec.upto mergePassesSpec)) mergePassesUptoCard

/-- THE SECOND FORM's CARD OF 'wringerlaw10.MergeAll'. -/
def mergeAllUptoCard : Claim7 := { stood := { row := mergeAllUptoRow, standIns := [], harness := (true, "430d926ed34f588629b593105b7fd0769059991c23445feb871595bbae5d1c6d"), looks := true }, kinds := [], alts := [], laidByText := true, laidKinds := [.data, .handle, .sentinel, .pinned], laidTests := true, laidLooks := .later }
def MergeAllUptoCardSaid : Prop := Claim7.holds Tryz.pinned (.plain (OpenSpec.upto mergeAllSpec)) mergeAllUptoCard

/-- THE SECOND FORM's CARD OF 'wringerlaw09.RunsTells'. -/
def runsTellsUptoCard : Claim7 := { stood := { row := runsTellsUptoRow, standIns := [], harness := (true, "430d926ed34f588629b593105b7fd0769059991c23445feb871595bbae5d1c6d"), looks := true }, kinds := [], alts := [], laidByText := true, laidKinds := [.data, .handle, .pinned], laidTests := true, laidLooks := .later }
def RunsTellsUptoCardSaid : Prop := Claim7.holds Tryz.pinned (.plain (OpenSpec.upto runsTellsSpec)) runsTellsUptoCard

/-- THE SECOND FORM's CARD OF 'wringerlaw09.RunsCosts'. -/
def runsCostsUptoCard : Claim7 := { stood := { row := runsCostsUptoRow, standIns := [], harness := (true, "430d926ed34f588629b593105b7fd0769059991c23445feb871595bbae5d1c6d"), looks := true }, kinds := [], alts := [], laidByText := true, laidKinds := [.data, .handle, .pinned], laidTests := true, laidLooks := .later }
def RunsCostsUptoCardSaid : Prop := Claim7.holds Tryz.pinned (.plain (OpenSpec.upto runsCostsSpec)) runsCostsUptoCard

/-- THE SECOND FORM's CARD OF 'wringerlaw09.RunsAll'. -/
def runsAllUptoCard : Claim7 := { stood := { row := runsAllUptoRow, standIns := [], harness := (true, "430d926ed34f588629b593105b7fd0769059991c23445feb871595bbae5d1c6d"), looks := true }, kinds := [], alts := [], laidByText := true, laidKinds := [.data, .handle, .pinned], laidTests := true, laidLooks := .later }
def RunsAllUptoCardSaid : Prop := Claim7.holds Tryz.pinned (.plain (OpenSpec.upto runsAllSpec)) runsAllUptoCard
end Rows
end Go.Proofs.YtmopegpkoedgbaaGreatDoor
