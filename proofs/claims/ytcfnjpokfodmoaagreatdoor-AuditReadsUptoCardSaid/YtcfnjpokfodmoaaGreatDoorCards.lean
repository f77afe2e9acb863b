/-
  DERIVED. GIVEN WITH THE SEED: THE CARDS: each row of YtcfnjpokfodmoaaGreatDoorRows.lean that lists a variable, with what it lists TIED to the program's text (the seventh form; the later family's looks); each row that meets fmt, with fmt's text TOLD by the authors' own Lean function (tested against real Go, not proved from fmt's source: count such statements apart). THE CARD IS WHAT COUNTS. Prove the row's statement (the work); the ties are given (YtcfnjpokfodmoaaGreatDoorTie.lean); close each card by the builder's one call (the guide's Derived/Test/ToyasCard.lean, 'card_holds'). Laid BY PROGRAM, IN A SANDBOX (cutbox-door.mjs). By AI agents, Wed Nov 11 2026. No macro, syntax, notation, axiom, sorry.
-/
import Derived.Test.YtcfnjpokfodmoaaGreatDoorRows
import GoSem.ClaimSeven
namespace Go.Proofs.YtcfnjpokfodmoaaGreatDoor
namespace Rows

/-- THE TIED CARD OF 'wringerlaw24.BoxBuilds'. -/
def boxBuildsCard : Claim7 := { stood := { row := boxBuildsRow, standIns := [], harness := (true, "a9520826581b6e95d3c4a587d06670e371ff782440a44d3f8a2427efbf66b044"), looks := true }, kinds := [], alts := [], laidByText := true, laidKinds := [.handle, .sentinel, .sentinel], laidTests := true, laidLooks := .later }
def BoxBuildsCardSaid : Prop := Claim7.holds Tryz.pinned (.plain (OpenSpec.ofChange boxBuildsSpec)) boxBuildsCard

/-- THE TIED CARD OF 'wringerlaw24.BoxBack'. -/
def boxBackCard : Claim7 := { stood := { row := boxBackRow, standIns := [], harness := (true, "a9520826581b6e95d3c4a587d06670e371ff782440a44d3f8a2427efbf66b044"), looks := true }, kinds := [], alts := [], laidByText := true, laidKinds := [.handle, .sentinel, .sentinel], laidTests := true, laidLooks := .later }
def BoxBackCardSaid : Prop := Claim7.holds Tryz.pinned (.plain (OpenSpec.ofChange boxBackSpec)) boxBackCard

/-- THE TIED CARD OF 'wringerlaw24.BoxTurned'. -/
def boxTurnedCard : Claim7 := { stood := { row := boxTurnedRow, standIns := [], harness := (true, "a9520826581b6e95d3c4a587d06670e371ff782440a44d3f8a2427efbf66b044"), looks := true }, kinds := [], alts := [], laidByText := true, laidKinds := [.handle, .sentinel, .sentinel], laidTests := true, laidLooks := .later }
def BoxTurnedCardSaid : Prop := Claim7.holds Tryz.pinned (.plain (OpenSpec.ofChange boxTurnedSpec)) boxTurnedCard

/-- THE TIED CARD OF 'wringerlaw24.BoxParts'. -/
def boxPartsCard : Claim7 := { stood := { row := boxPartsRow, standIns := [], harness := (true, "a9520826581b6e95d3c4a587d06670e371ff782440a44d3f8a2427efbf66b044"), looks := true }, kinds := [], alts := [], laidByText := true, laidKinds := [.handle, .sentinel, .sentinel], laidTests := true, laidLooks := .later }
def BoxPartsCardSaid : Prop := Claim7.holds Tryz.pinned (.plain (OpenSpec.ofChange boxPartsSpec)) boxPartsCard

/-- THE TIED CARD OF 'wringerlaw31.AuditReads'. -/
def auditReadsCard : Claim7 := { stood := { row := auditReadsRow, standIns := [], harness := (true, "a9520826581b6e95d3c4a587d06670e371ff782440a44d3f8a2427efbf66b044"), looks := true }, kinds := [], alts := [], laidByText := true, laidKinds := [.data, .data, .data, .data, .handle, .sentinel, .sentinel, .sentinel, .sentinel, .pinned], laidTests := true, laidLooks := .later }
def AuditReadsCardSaid : Prop := Claim7.holds Tryz.pinned (.plain (OpenSpec.ofChange auditReadsSpec)) auditReadsCard

/-- THE TIED CARD OF 'wringerlaw31.AuditAll'. -/
def auditAllCard : Claim7 := { stood := { row := auditAllRow, standIns := [], harness := (true, "a9520826581b6e95d3c4a587d06670e371ff782440a44d3f8a2427efbf66b044"), looks := true }, kinds := [], alts := [], laidByText := true, laidKinds := [.data, .data, .data, .data, .handle, .sentinel, .sentinel, .sentinel, .sentinel, .pinned], laidTests := true, laidLooks := .later }
def AuditAllCardSaid : Prop := Claim7.holds Tryz.pinned (.plain (OpenSpec.ofChange auditAllSpec)) auditAllCard

/-- THE TIED CARD OF 'wringerlaw31.AuditBack'. -/
def auditBackCard : Claim7 := { stood := { row := auditBackRow, standIns := [], harness := (true, "a9520826581b6e95d3c4a587d06670e371ff782440a44d3f8a2427efbf66b044"), looks := true }, kinds := [], alts := [], laidByText := true, laidKinds := [.data, .data, .data, .data, .handle, .sentinel, .sentinel, .sentinel, .sentinel, .pinned], laidTests := true, laidLooks := .later }
def AuditBackCardSaid : Prop := Claim7.holds Tryz.pinned (.plain (OpenSpec.ofChange auditBackSpec)) auditBackCard

/-- THE TIED CARD OF 'wringerlaw31.AuditBest'. -/
def auditBestCard : Claim7 := { stood := { row := auditBestRow, standIns := [], harness := (true, "a9520826581b6e95d3c4a587d06670e371ff782440a44d3f8a2427efbf66b044"), looks := true }, kinds := [], alts := [], laidByText := true, laidKinds := [.data, .data, .data, .data, .handle, .sentinel, .sentinel, .sentinel, .sentinel, .pinned], laidTests := true, laidLooks := .later }
def AuditBestCardSaid : Prop := Claim7.holds Tryz.pinned (.plain (OpenSpec.ofChange auditBestSpec)) auditBestCard

/-- THE SECOND FORM's CARD OF 'wringerlaw24.BoxBuilds'. -/
def boxBuildsUptoCard : Claim7 := { stood := { row := boxBuildsUptoRow, standIns := [], harness := (true, "a9520826581b6e95d3c4a587d06670e371ff782440a44d3f8a2427efbf66b044"), looks := true }, kinds := [], alts := [], laidByText := true, laidKinds := [.handle, .sentinel, .sentinel], laidTests := true, laidLooks := .later }
def BoxBuildsUptoCardSaid : Prop := Claim7.holds Tryz.pinned (.plain (OpenSpec.upto boxBuildsSpec)) boxBuildsUptoCard

/-- THE SECOND FORM's CARD OF 'wringerlaw24.BoxBack'. -/
def boxBackUptoCard : Claim7 := { stood := { row := boxBackUptoRow, standIns := [], harness := (true, "a9520826581b6e95d3c4a587d06670e371ff782440a44d3f8a2427efbf66b044"), looks := true }, kinds := [], alts := [], laidByText := true, laidKinds := [.handle, .sentinel, .sentinel], laidTests := true, laidLooks := .later }
def BoxBackUptoCardSaid : Prop := Claim7.holds Tryz.pinned (.plain (OpenSpec.upto boxBackSpec)) boxBackUptoCard

/-- THE SECOND FORM's CARD OF 'wringerlaw24.BoxTurned'. -/
def boxTurnedUptoCard : Claim7 := { stood := { row := boxTurnedUptoRow, standIns := [], harness := (true, "a9520826581b6e95d3c4a587d06670e371ff782440a44d3f8a2427efbf66b044"), looks := true }, kinds := [], alts := [], laidByText := true, laidKinds := [.handle, .sentinel, .sentinel], laidTests := true, laidLooks := .later }
def BoxTurnedUptoCardSaid : Prop := Claim7.holds Tryz.pinned (.plain (OpenSpec.upto boxTurnedSpec)) boxTurnedUptoCard

/-- THE SECOND FORM's CARD OF 'wringerlaw24.BoxParts'. -/
def boxPartsUptoCard : Claim7 := { stood := { row := boxPartsUptoRow, standIns := [], harness := (true, "a9520826581b6e95d3c4a587d06670e371ff782440a44d3f8a2427efbf66b044"), looks := true }, kinds := [], alts := [], laidByText := true, laidKinds := [.handle, .sentinel, .sentinel], laidTests := true, laidLooks := .later }
def BoxPartsUptoCardSaid : Prop := Claim7.holds Tryz.pinned (.plain (OpenSpec.upto boxPartsSpec)) boxPartsUptoCard

/-- THE SECOND FORM's CARD OF 'wringerlaw31.AuditReads'. -/
def auditReadsUptoCard : Claim7 := { stood := { row := auditReadsUptoRow, standIns := [], harness := (true, "a9520826581b6e95d3c4a587d06670e371ff782440a44d3f8a2427efbf66b044"), looks := true }, kinds := [], alts := [], laidByText := true, laidKinds := [.data, .data, .data, .data, .handle, .sentinel, .sentinel, .sentinel, .sentinel, .pinned], laidTests := true, laidLooks := .later }
def AuditReadsUptoCardSaid : Prop := Claim7.holds Tryz.pinned (.plain (OpenSpec.upto auditReadsSpec)) auditReadsUptoCard

/-- THE SECOND FORM's CARD OF 'wringerlaw31.AuditAll'. -/
def auditAllUptoCard : Claim7 := { stood := { row := auditAllUptoRow, standIns := [], harness := (true, "a9520826581b6e95d3c4a587d06670e371ff782440a44d3f8a2427efbf66b044"), looks := true }, kinds := [], alts := [], laidByText := true, laidKinds := [.data, .data, .data, .data, .handle, .sentinel, .sentinel, .sentinel, .sentinel, .pinned], laidTests := true, laidLooks := .later }
def AuditAllUptoCardSaid : Prop := Claim7.holds Tryz.pinned (.plain (OpenSpec.upto auditAllSpec)) auditAllUptoCard

/-- THE SECOND FORM's CARD OF 'wringerlaw31.AuditBack'. -/
def auditBackUptoCard : Claim7 := { stood := { row := auditBackUptoRow, standIns := [], harness := (true, "a9520826581b6e95d3c4a587d06670e371ff782440a44d3f8a2427efbf66b044"), looks := true }, kinds := [], alts := [], laidByText := true, laidKinds := [.data, .data, .data, .data, .handle, .sentinel, .sentinel, .sentinel, .sentinel, .pinned], laidTests := true, laidLooks := .later }
def AuditBackUptoCardSaid : Prop := Claim7.holds Tryz.pinned (.plain (OpenSpec.upto auditBackSpec)) auditBackUptoCard

/-- THE SECOND FORM's CARD OF 'wringerlaw31.AuditBest'. -/
def auditBestUptoCard : Claim7 := { stood := { row := auditBestUptoRow, standIns := [], harness := (true, "a9520826581b6e95d3c4a587d06670e371ff782440a44d3f8a2427efbf66b044"), looks := true }, kinds := [], alts := [], laidByText := true, laidKinds := [.data, .data, .data, .data, .handle, .sentinel, .sentinel, .sentinel, .sentinel, .pinned], laidTests := true, laidLooks := .later }
def AuditBestUptoCardSaid : Prop := Claim7.holds Tryz.pinned (.plain (OpenSpec.upto auditBestSpec)) auditBestUptoCard
end Rows
end Go.Proofs.YtcfnjpokfodmoaaGreatDoor
