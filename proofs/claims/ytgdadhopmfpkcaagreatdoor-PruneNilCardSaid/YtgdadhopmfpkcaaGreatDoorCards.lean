/-
  DERIVED. GIVEN WITH THE SEED: THE CARDS: each row of YtgdadhopmfpkcaaGreatDoorRows.lean that lists a variable, with what it lists TIED to the program's text (the seventh form; the later family's looks); each row that meets fmt, with fmt's text TOLD by the authors' own Lean function (tested against real Go, not proved from fmt's source: count such statements apart). THE CARD IS WHAT COUNTS. Prove the row's statement (the work); the ties are given (YtgdadhopmfpkcaaGreatDoorTie.lean); close each card by the builder's one call (the guide's Derived/Test/ToyasCard.lean, 'card_holds'). Laid BY PROGRAM, IN A SANDBOX (cutbox-door.mjs). By AI agents, Wed Nov 11 2026. No macro, syntax, notation, axiom, sorry.
-/
import Derived.Test.YtgdadhopmfpkcaaGreatDoorRows
import GoSem.ClaimSeven
namespace Go.Proofs.YtgdadhopmfpkcaaGreatDoor
namespace Rows

/-- THE TIED CARD OF 'jigsawlaw14.PruneNil'. -/
def pruneNilCard : Claim7 := { stood := { row := pruneNilRow, standIns := [], harness := (true, "ce977510009abf3f55f89d47f09a97d2410e8f248c9aa0fb7c563fc11d40abb0"), looks := true }, kinds := [], alts := [], laidByText := true, laidKinds := [.data, .pinned], laidTests := true, laidLooks := .later }
def PruneNilCardSaid : Prop := Claim7.holds Tryz.pinned (.plain (OpenSpec.ofChange pruneNilSpec)) pruneNilCard

/-- THE SECOND FORM's CARD OF 'jigsawlaw14.PruneNil'. -/
def pruneNilUptoCard : Claim7 := { stood := { row := pruneNilUptoRow, standIns := [], harness := (true, "ce977510009abf3f55f89d47f09a97d2410e8f248c9aa0fb7c563fc11d40abb0"), looks := true }, kinds := [], alts := [], laidByText := true, laidKinds := [.data, .pinned], laidTests := true, laidLooks := .later }
def PruneNilUptoCardSaid : Prop := Claim7.holds Tryz.pinned (.plain (OpenSpec.upto pruneNilSpec)) pruneNilUptoCard
end Rows
end Go.Proofs.YtgdadhopmfpkcaaGreatDoor
