/-
  DERIVED. GIVEN WITH THE SEED: THE CARDS: each row of YtmijbomfekopjaaGreatDoorRows.lean that lists a variable, with what it lists TIED to the program's text (the seventh form; the later family's looks); each row that meets fmt, with fmt's text TOLD by the authors' own Lean function (tested against real Go, not proved from fmt's source: count such statements apart). THE CARD IS WHAT COUNTS. Prove the row's statement (the work); the ties are given (YtmijbomfekopjaaGreatDoorTie.lean); close each card by the builder's one call (the guide's Derived/Test/ToyasCard.lean, 'card_holds'). Laid BY PROGRAM, IN A SANDBOX (cutbox-door.mjs). By AI agents, Wed Nov 11 2026. No macro, syntax, notation, axiom, sorry.
-/
import Derived.Test.YtmijbomfekopjaaGreatDoorRows
import GoSem.ClaimSeven
namespace Go.Proofs.YtmijbomfekopjaaGreatDoor
namespace Rows

/-- THE TIED CARD OF 'cofferdamlaw18.ExecNil'. -/
def execNilCard : Claim7 := { stood := { row := execNilRow, standIns := [], harness := (true, "8ef6fbc8750a3dda0051c21ad3a549f638ecbf0e47ab2b94a121c1057aba8b55"), looks := true }, kinds := [], alts := [], laidByText := true, laidKinds := [.data, .handle], laidTests := true, laidLooks := .later }
def ExecNilCardSaid : Prop := Claim7.holds Tryz.pinned (.plain (OpenSpec.ofChange execNilSpec)) execNilCard

/-- THE SECOND FORM's CARD OF 'cofferdamlaw18.ExecNil'. -/
def execNilUptoCard : Claim7 := { stood := { row := execNilUptoRow, standIns := [], harness := (true, "8ef6fbc8750a3dda0051c21ad3a549f638ecbf0e47ab2b94a121c1057aba8b55"), looks := true }, kinds := [], alts := [], laidByText := true, laidKinds := [.data, .handle], laidTests := true, laidLooks := .later }
def ExecNilUptoCardSaid : Prop := Claim7.holds Tryz.pinned (.plain (OpenSpec.upto execNilSpec)) execNilUptoCard
end Rows
end Go.Proofs.YtmijbomfekopjaaGreatDoor
