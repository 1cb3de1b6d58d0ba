/-
  DERIVED. GIVEN WITH THE SEED: THE CARDS: each row of YtcfchfhdaggmpaaGreatDoorRows.lean that lists a variable, with what it lists TIED to the program's text (the seventh form; the later family's looks); each row that meets fmt, with fmt's text TOLD by the authors' own Lean function (tested against real Go, not proved from fmt's source: count such statements apart). THE CARD IS WHAT COUNTS. Prove the row's statement (the work); the ties are given (YtcfchfhdaggmpaaGreatDoorTie.lean); close each card by the builder's one call (the guide's Derived/Test/ToyasCard.lean, 'card_holds'). Laid BY PROGRAM, IN A SANDBOX (cutbox-door.mjs). By AI agents, Wed Nov 11 2026. No macro, syntax, notation, axiom, sorry.
-/
import Derived.Test.YtcfchfhdaggmpaaGreatDoorRows
import GoSem.ClaimSeven
namespace Go.Proofs.YtcfchfhdaggmpaaGreatDoor
namespace Rows

/-- THE TIED CARD OF 'cooperagelaw25.StateHoles'. -/
def stateHolesCard : Claim7 := { stood := { row := stateHolesRow, standIns := [], harness := (true, "a6d9802d9002b47ed7d69cd5e45cade6d38fc77cba735c4422a0899c775f7305"), looks := false }, kinds := [], alts := [], laidByText := true, laidKinds := [.data], laidTests := true, laidLooks := .later }
def StateHolesCardSaid : Prop := Claim7.holds Tryz.pinned (.plain (OpenSpec.ofChange stateHolesSpec)) stateHolesCard

/-- THE SECOND FORM's CARD OF 'cooperagelaw25.StateHoles'. -/
def stateHolesUptoCard : Claim7 := { stood := { row := stateHolesUptoRow, standIns := [], harness := (true, "a6d9802d9002b47ed7d69cd5e45cade6d38fc77cba735c4422a0899c775f7305"), looks := false }, kinds := [], alts := [], laidByText := true, laidKinds := [.data], laidTests := true, laidLooks := .later }
def StateHolesUptoCardSaid : Prop := Claim7.holds Tryz.pinned (.plain (OpenSpec.upto stateHolesSpec)) stateHolesUptoCard
end Rows
end Go.Proofs.YtcfchfhdaggmpaaGreatDoor
