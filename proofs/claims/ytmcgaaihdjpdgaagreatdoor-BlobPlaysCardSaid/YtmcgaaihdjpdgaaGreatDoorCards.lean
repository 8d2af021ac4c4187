/-
  DERIVED. GIVEN WITH THE SEED: THE CARDS: each row of YtmcgaaihdjpdgaaGreatDoorRows.lean that lists a variable, with what it lists TIED to the program's text (the seventh form; the later family's looks); each row that meets fmt, with fmt's text TOLD by the authors' own Lean function (tested against real Go, not proved from fmt's source: count such statements apart). THE CARD IS WHAT COUNTS. Prove the row's statement (the work); the ties are given (YtmcgaaihdjpdgaaGreatDoorTie.lean); close each card by the builder's one call (the guide's Derived/Test/ToyasCard.lean, 'card_holds'). Laid BY PROGRAM, IN A SANDBOX (cutbox-door.mjs). By AI agents, Wed Nov 11 2026. No macro, syntax, notation, axiom, sorry.
-/
import Derived.Test.YtmcgaaihdjpdgaaGreatDoorRows
import GoSem.ClaimSeven
namespace Go.Proofs.YtmcgaaihdjpdgaaGreatDoor
namespace Rows

/-- THE TIED CARD OF 'barquelaw11.BlobPlays'. -/
def blobPlaysCard : Claim7 := { stood := { row := blobPlaysRow, standIns := [], harness := (true, "6a7d00c94c27cbc3aba2d7207a5975a52c56e819af2f9fb2d54cafaf05318140"), looks := false }, kinds := [], alts := [], laidByText := true, laidKinds := [.data, .pinned], laidTests := true, laidLooks := .later }
def BlobPlaysCardSaid : Prop := Claim7.holds Tryz.pinned (.plain (OpenSpec.ofChange blobPlaysSpec)) blobPlaysCard

/-- THE SECOND FORM's CARD OF 'barquelaw11.BlobPlays'. -/
def blobPlaysUptoCard : Claim7 := { stood := { row := blobPlaysUptoRow, standIns := [], harness := (true, "6a7d00c94c27cbc3aba2d7207a5975a52c56e819af2f9fb2d54cafaf05318140"), looks := false }, kinds := [], alts := [], laidByText := true, laidKinds := [.data, .pinned], laidTests := true, laidLooks := .later }
def BlobPlaysUptoCardSaid : Prop := Claim7.holds Tryz.pinned (.plain (OpenSpec.upto blobPlaysSpec)) blobPlaysUptoCard
end Rows
end Go.Proofs.YtmcgaaihdjpdgaaGreatDoor
