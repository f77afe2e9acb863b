/-
  DERIVED. GIVEN WITH THE SEED: THE CARDS: each row of YtmbonieeapbpoaaGreatDoorRows.lean that lists a variable, with what it lists TIED to the program's text (the seventh form; the later family's looks); each row that meets fmt, with fmt's text TOLD by the authors' own Lean function (tested against real Go, not proved from fmt's source: count such statements apart). THE CARD IS WHAT COUNTS. Prove the row's statement (the work); the ties are given (YtmbonieeapbpoaaGreatDoorTie.lean); close each card by the builder's one call (the guide's Derived/Test/ToyasCard.lean, 'card_holds'). Laid BY PROGRAM, IN A SANDBOX (cutbox-door.mjs). By AI agents, Wed Nov 11 2026. No macro, syntax, notation, axiom, sorry.
-/
import Derived.Test.YtmbonieeapbpoaaGreatDoorRows
import GoSem.ClaimSeven
namespace Go.Proofs.YtmbonieeapbpoaaGreatDoor
namespace Rows

/-- THE TIED CARD OF 'wringerlaw29.WorldTells'. -/
def worldTellsCard : Claim7 := { stood := { row := worldTellsRow, standIns := [], harness := (true, "94a4edfc8f4cdaf9b7fa462633eb8fa9105f0819e43f301b4bd856eaf01d7220"), looks := true }, kinds := [], alts := [], laidByText := true, laidKinds := [.pinned, .data, .handle, .sentinel, .sentinel, .sentinel, .sentinel], laidTests := true, laidLooks := .later }
def WorldTellsCardSaid : Prop := Claim7.holds Tryz.pinned (.plain (OpenSpec.ofChange worldTellsSpec)) worldTellsCard

/-- THE TIED CARD OF 'wringerlaw29.WorldFiles'. -/
def worldFilesCard : Claim7 := { stood := { row := worldFilesRow, standIns := [], harness := (true, "94a4edfc8f4cdaf9b7fa462633eb8fa9105f0819e43f301b4bd856eaf01d7220"), looks := true }, kinds := [], alts := [], laidByText := true, laidKinds := [.pinned, .data, .handle, .sentinel, .sentinel, .sentinel, .sentinel], laidTests := true, laidLooks := .later }
def WorldFilesCardSaid : Prop := Claim7.holds Tryz.pinned (.plain (OpenSpec.ofChange worldFilesSpec)) worldFilesCard

/-- THE SECOND FORM's CARD OF 'wringerlaw29.WorldTells'. -/
def worldTellsUptoCard : Claim7 := { stood := { row := worldTellsUptoRow, standIns := [], harness := (true, "94a4edfc8f4cdaf9b7fa462633eb8fa9105f0819e43f301b4bd856eaf01d7220"), looks := true }, kinds := [], alts := [], laidByText := true, laidKinds := [.pinned, .data, .handle, .sentinel, .sentinel, .sentinel, .sentinel], laidTests := true, laidLooks := .later }
def WorldTellsUptoCardSaid : Prop := Claim7.holds Tryz.pinned (.plain (OpenSpec.upto worldTellsSpec)) worldTellsUptoCard

/-- THE SECOND FORM's CARD OF 'wringerlaw29.WorldFiles'. -/
def worldFilesUptoCard : Claim7 := { stood := { row := worldFilesUptoRow, standIns := [], harness := (true, "94a4edfc8f4cdaf9b7fa462633eb8fa9105f0819e43f301b4bd856eaf01d7220"), looks := true }, kinds := [], alts := [], laidByText := true, laidKinds := [.pinned, .data, .handle, .sentinel, .sentinel, .sentinel, .sentinel], laidTests := true, laidLooks := .later }
def WorldFilesUptoCardSaid : Prop := Claim7.holds Tryz.pinned (.plain (OpenSpec.upto worldFilesSpec)) worldFilesUptoCard
end Rows
end Go.Proofs.YtmbonieeapbpoaaGreatDoor
