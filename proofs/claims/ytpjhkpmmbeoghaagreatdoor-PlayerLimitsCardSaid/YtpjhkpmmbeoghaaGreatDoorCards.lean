/-
  DERIVED. GIVEN WITH THE SEED: THE CARDS: each row of YtpjhkpmmbeoghaaGreatDoorRows.lean that lists a variable, with what it lists TIED to the program's text (the seventh form; the later family's looks); each row that meets fmt, with fmt's text TOLD by the authors' own Lean function (tested against real Go, not proved from fmt's source: count such statements apart). THE CARD IS WHAT COUNTS. Prove the row's statement (the work); the ties are given (YtpjhkpmmbeoghaaGreatDoorTie.lean); close each card by the builder's one call (the guide's Derived/Test/ToyasCard.lean, 'card_holds'). Laid BY PROGRAM, IN A SANDBOX (cutbox-door.mjs). By AI agents, Wed Nov 11 2026. No macro, syntax, notation, axiom, sorry.
-/
import Derived.Test.YtpjhkpmmbeoghaaGreatDoorRows
import GoSem.ClaimSeven
namespace Go.Proofs.YtpjhkpmmbeoghaaGreatDoor
namespace Rows

/-- THE TIED CARD OF 'fretworklaw24.AutoKnown'. -/
def autoKnownCard : Claim7 := { stood := { row := autoKnownRow, standIns := [], harness := (true, "2a06fc18b23c9d7f8028ec3373eefb58eb1d33b98585eebf94fd970c6be81d89"), looks := false }, kinds := [], alts := [], laidByText := true, laidKinds := [.data, .data, .data], laidTests := true, laidLooks := .later }
def AutoKnownCardSaid : Prop := Claim7.holds Tryz.pinned (.plain (OpenSpec.ofChange autoKnownSpec)) autoKnownCard

/-- THE TIED CARD OF 'fretworklaw26.PlayerLimits'. -/
def playerLimitsCard : Claim7 := { stood := { row := playerLimitsRow, standIns := [], harness := (true, "2a06fc18b23c9d7f8028ec3373eefb58eb1d33b98585eebf94fd970c6be81d89"), looks := false }, kinds := [], alts := [], laidByText := true, laidKinds := [.data, .data, .data, .data, .pinned], laidTests := true, laidLooks := .later }
def PlayerLimitsCardSaid : Prop := Claim7.holds Tryz.pinned (.plain (OpenSpec.ofChange playerLimitsSpec)) playerLimitsCard

/-- THE SECOND FORM's CARD OF 'fretworklaw24.AutoKnown'. -/
def autoKnownUptoCard : Claim7 := { stood := { row := autoKnownUptoRow, standIns := [], harness := (true, "2a06fc18b23c9d7f8028ec3373eefb58eb1d33b98585eebf94fd970c6be81d89"), looks := false }, kinds := [], alts := [], laidByText := true, laidKinds := [.data, .data, .data], laidTests := true, laidLooks := .later }
def AutoKnownUptoCardSaid : Prop := Claim7.holds Tryz.pinned (.plain (OpenSpec.upto autoKnownSpec)) autoKnownUptoCard

/-- THE SECOND FORM's CARD OF 'fretworklaw26.PlayerLimits'. -/
def playerLimitsUptoCard : Claim7 := { stood := { row := playerLimitsUptoRow, standIns := [], harness := (true, "2a06fc18b23c9d7f8028ec3373eefb58eb1d33b98585eebf94fd970c6be81d89"), looks := false }, kinds := [], alts := [], laidByText := true, laidKinds := [.data, .data, .data, .data, .pinned], laidTests := true, laidLooks := .later }
def PlayerLimitsUptoCardSaid : Prop := Claim7.holds Tryz.pinned (.plain (OpenSpec.upto playerLimitsSpec)) playerLimitsUptoCard
end Rows
end Go.Proofs.YtpjhkpmmbeoghaaGreatDoor
