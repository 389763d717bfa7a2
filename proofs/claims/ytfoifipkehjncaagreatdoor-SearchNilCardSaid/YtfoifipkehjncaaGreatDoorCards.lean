/-
  DERIVED. GIVEN WITH THE SEED: THE CARDS: each row of YtfoifipkehjncaaGreatDoorRows.lean that lists a variable, with what it lists TIED to the program's text (the seventh form; the later family's looks); each row that meets fmt, with fmt's text TOLD by the authors' own Lean function (tested against real Go, not proved from fmt's source: count such statements apart). THE CARD IS WHAT COUNTS. Prove the row's statement (the work); the ties are given (YtfoifipkehjncaaGreatDoorTie.lean); close each card by the builder's one call (the guide's Derived/Test/ToyasCard.lean, 'card_holds'). Laid BY PROGRAM, IN A SANDBOX (cutbox-door.mjs). By AI agents, Wed Nov 11 2026. No macro, syntax, notation, axiom, sorry.
-/
import Derived.Test.YtfoifipkehjncaaGreatDoorRows
import GoSem.ClaimSeven
namespace Go.Proofs.YtfoifipkehjncaaGreatDoor
namespace Rows

/-- THE TIED CARD OF 'jigsawlaw20.SearchNil'. -/
def searchNilCard : Claim7 := { stood := { row := searchNilRow, standIns := [], harness := (true, "d28217ff8a66508646e93f7f0b4bcac9bccdbe98bec3da05597a7c8babf40a4a"), looks := true }, kinds := [], alts := [], laidByText := true, laidKinds := [.data, .data, .data, .data, .pinned], laidTests := true, laidLooks := .later }
def SearchNilCardSaid : Prop := Claim7.holds Tryz.pinned (.plain (OpenSpec.ofChange searchNilSpec)) searchNilCard

/-- THE SECOND FORM's CARD OF 'jigsawlaw20.SearchNil'. -/
def searchNilUptoCard : Claim7 := { stood := { row := searchNilUptoRow, standIns := [], harness := (true, "d28217ff8a66508646e93f7f0b4bcac9bccdbe98bec3da05597a7c8babf40a4a"), looks := true }, kinds := [], alts := [], laidByText := true, laidKinds := [.data, .data, .data, .data, .pinned], laidTests := true, laidLooks := .later }
def SearchNilUptoCardSaid : Prop := Claim7.holds Tryz.pinned (.plain (OpenSpec.upto searchNilSpec)) searchNilUptoCard
end Rows
end Go.Proofs.YtfoifipkehjncaaGreatDoor
