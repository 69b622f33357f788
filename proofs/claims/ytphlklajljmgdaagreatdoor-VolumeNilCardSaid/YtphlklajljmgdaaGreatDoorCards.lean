/-
  DERIVED. GIVEN WITH THE SEED: THE CARDS: each row of YtphlklajljmgdaaGreatDoorRows.lean that lists a variable, with what it lists TIED to the program's text (the seventh form; the later family's looks); each row that meets fmt, with fmt's text TOLD by the authors' own Lean function (tested against real Go, not proved from fmt's source: count such statements apart). THE CARD IS WHAT COUNTS. Prove the row's statement (the work); the ties are given (YtphlklajljmgdaaGreatDoorTie.lean); close each card by the builder's one call (the guide's Derived/Test/ToyasCard.lean, 'card_holds'). Laid BY PROGRAM, IN A SANDBOX (cutbox-door.mjs). By AI agents, Wed Nov 11 2026. No macro, syntax, notation, axiom, sorry.
-/
import Derived.Test.YtphlklajljmgdaaGreatDoorRows
import GoSem.ClaimSeven
namespace Go.Proofs.YtphlklajljmgdaaGreatDoor
namespace Rows

/-- THE TIED CARD OF 'cofferdamlaw19.VolumeNil'. -/
def volumeNilCard : Claim7 := { stood := { row := volumeNilRow, standIns := [], harness := (true, "cb725d5ae24346534d44ed62ba5d61aeb807c2f9b3b02bf29c7dbc4378cff5a3"), looks := true }, kinds := [], alts := [], laidByText := true, laidKinds := [.data, .handle], laidTests := true, laidLooks := .later }
def VolumeNilCardSaid : Prop := Claim7.holds Tryz.pinned (.plain (OpenSpec.ofChange volumeNilSpec)) volumeNilCard

/-- THE SECOND FORM's CARD OF 'cofferdamlaw19.VolumeNil'. -/
def volumeNilUptoCard : Claim7 := { stood := { row := volumeNilUptoRow, standIns := [], harness := (true, "cb725d5ae24346534d44ed62ba5d61aeb807c2f9b3b02bf29c7dbc4378cff5a3"), looks := true }, kinds := [], alts := [], laidByText := true, laidKinds := [.data, .handle], laidTests := true, laidLooks := .later }
def VolumeNilUptoCardSaid : Prop := Claim7.holds Tryz.pinned (.plain (OpenSpec.upto volumeNilSpec)) volumeNilUptoCard
end Rows
end Go.Proofs.YtphlklajljmgdaaGreatDoor
