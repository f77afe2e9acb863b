/-
  DERIVED. GIVEN WITH THE SEED: THE CARDS: each row of YtahnnebpadbopaaGreatDoorRows.lean that lists a variable, with what it lists TIED to the program's text (the seventh form; the later family's looks); each row that meets fmt, with fmt's text TOLD by the authors' own Lean function (tested against real Go, not proved from fmt's source: count such statements apart). THE CARD IS WHAT COUNTS. Prove the row's statement (the work); the ties are given (YtahnnebpadbopaaGreatDoorTie.lean); close each card by the builder's one call (the guide's Derived/Test/ToyasCard.lean, 'card_holds'). Laid BY PROGRAM, IN A SANDBOX (cutbox-door.mjs). By AI agents, Wed Nov 11 2026. No macro, syntax, notation, axiom, sorry.
-/
import Derived.Test.YtahnnebpadbopaaGreatDoorRows
import GoSem.ClaimSeven
namespace Go.Proofs.YtahnnebpadbopaaGreatDoor
namespace Rows

/-- THE TIED CARD OF 'wringerlaw32.FrontScripts'. -/
def frontScriptsCard : Claim7 := { stood := { row := frontScriptsRow, standIns := [], harness := (true, "34c2a4e81ef968aa2e39fb0d8d3bba43c1fd4790a592afa03d5dcf924c94ce66"), looks := true }, kinds := [], alts := [], laidByText := true, laidKinds := [.data, .sentinel, .sentinel, .data, .data, .data, .pinned, .data, .handle, .sentinel, .sentinel, .sentinel, .sentinel], laidTests := true, laidLooks := .later }
def FrontScriptsCardSaid : Prop := Claim7.holds Tryz.pinned (.plain (OpenSpec.ofChange frontScriptsSpec)) frontScriptsCard

/-- THE TIED CARD OF 'wringerlaw32.FrontQuotes'. -/
def frontQuotesCard : Claim7 := { stood := { row := frontQuotesRow, standIns := [], harness := (true, "34c2a4e81ef968aa2e39fb0d8d3bba43c1fd4790a592afa03d5dcf924c94ce66"), looks := true }, kinds := [], alts := [], laidByText := true, laidKinds := [.data, .sentinel, .sentinel, .data, .data, .data, .pinned, .data, .handle, .sentinel, .sentinel, .sentinel, .sentinel], laidTests := true, laidLooks := .later }
def FrontQuotesCardSaid : Prop := Claim7.holds Tryz.pinned (.plain (OpenSpec.ofChange frontQuotesSpec)) frontQuotesCard

/-- THE TIED CARD OF 'wringerlaw32.FrontBack'. -/
def frontBackCard : Claim7 := { stood := { row := frontBackRow, standIns := [], harness := (true, "34c2a4e81ef968aa2e39fb0d8d3bba43c1fd4790a592afa03d5dcf924c94ce66"), looks := true }, kinds := [], alts := [], laidByText := true, laidKinds := [.data, .sentinel, .sentinel, .data, .data, .data, .pinned, .data, .handle, .sentinel, .sentinel, .sentinel, .sentinel], laidTests := true, laidLooks := .later }
def FrontBackCardSaid : Prop := Claim7.holds Tryz.pinned (.plain (OpenSpec.ofChange frontBackSpec)) frontBackCard

/-- THE TIED CARD OF 'wringerlaw32.FrontLine'. -/
def frontLineCard : Claim7 := { stood := { row := frontLineRow, standIns := [], harness := (true, "34c2a4e81ef968aa2e39fb0d8d3bba43c1fd4790a592afa03d5dcf924c94ce66"), looks := true }, kinds := [], alts := [], laidByText := true, laidKinds := [.data, .sentinel, .sentinel, .data, .data, .data, .pinned, .data, .handle, .sentinel, .sentinel, .sentinel, .sentinel], laidTests := true, laidLooks := .later }
def FrontLineCardSaid : Prop := Claim7.holds Tryz.pinned (.plain (OpenSpec.ofChange frontLineSpec)) frontLineCard

/-- THE SECOND FORM's CARD OF 'wringerlaw32.FrontScripts'. -/
def frontScriptsUptoCard : Claim7 := { stood := { row := frontScriptsUptoRow, standIns := [], harness := (true, "34c2a4e81ef968aa2e39fb0d8d3bba43c1fd4790a592afa03d5dcf924c94ce66"), looks := true }, kinds := [], alts := [], laidByText := true, laidKinds := [.data, .sentinel, .sentinel, .data, .data, .data, .pinned, .data, .handle, .sentinel, .sentinel, .sentinel, .sentinel], laidTests := true, laidLooks := .later }
def FrontScriptsUptoCardSaid : Prop := Claim7.holds Tryz.pinned (.plain (OpenSpec.upto frontScriptsSpec)) frontScriptsUptoCard

/-- THE SECOND FORM's CARD OF 'wringerlaw32.FrontQuotes'. -/
def frontQuotesUptoCard : Claim7 := { stood := { row := frontQuotesUptoRow, standIns := [], harness := (true, "34c2a4e81ef968aa2e39fb0d8d3bba43c1fd4790a592afa03d5dcf924c94ce66"), looks := true }, kinds := [], alts := [], laidByText := true, laidKinds := [.data, .sentinel, .sentinel, .data, .data, .data, .pinned, .data, .handle, .sentinel, .sentinel, .sentinel, .sentinel], laidTests := true, laidLooks := .later }
def FrontQuotesUptoCardSaid : Prop := Claim7.holds Tryz.pinned (.plain (OpenSpec.upto frontQuotesSpec)) frontQuotesUptoCard

/-- THE SECOND FORM's CARD OF 'wringerlaw32.FrontBack'. -/
def frontBackUptoCard : Claim7 := { stood := { row := frontBackUptoRow, standIns := [], harness := (true, "34c2a4e81ef968aa2e39fb0d8d3bba43c1fd4790a592afa03d5dcf924c94ce66"), looks := true }, kinds := [], alts := [], laidByText := true, laidKinds := [.data, .sentinel, .sentinel, .data, .data, .data, .pinned, .data, .handle, .sentinel, .sentinel, .sentinel, .sentinel], laidTests := true, laidLooks := .later }
def FrontBackUptoCardSaid : Prop := Claim7.holds Tryz.pinned (.plain (OpenSpec.upto frontBackSpec)) frontBackUptoCard

/-- THE SECOND FORM's CARD OF 'wringerlaw32.FrontLine'. -/
def frontLineUptoCard : Claim7 := { stood := { row := frontLineUptoRow, standIns := [], harness := (true, "34c2a4e81ef968aa2e39fb0d8d3bba43c1fd4790a592afa03d5dcf924c94ce66"), looks := true }, kinds := [], alts := [], laidByText := true, laidKinds := [.data, .sentinel, .sentinel, .data, .data, .data, .pinned, .data, .handle, .sentinel, .sentinel, .sentinel, .sentinel], laidTests := true, laidLooks := .later }
def FrontLineUptoCardSaid : Prop := Claim7.holds Tryz.pinned (.plain (OpenSpec.upto frontLineSpec)) frontLineUptoCard
end Rows
end Go.Proofs.YtahnnebpadbopaaGreatDoor
