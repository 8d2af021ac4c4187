/-
  DERIVED. GIVEN WITH THE SEED: THE CARDS: each row of YtmcgaaihdjpdgaaDoorRows.lean that lists a variable, with what it lists TIED to the program's text (the seventh form; the later family's looks); each row that meets fmt, with fmt's text TOLD by the authors' own Lean function (tested against real Go, not proved from fmt's source: count such statements apart). THE CARD IS WHAT COUNTS. Prove the row's statement (the work); the ties are given (YtmcgaaihdjpdgaaDoorTie.lean); close each card by the builder's one call (the guide's Derived/Test/ToyasCard.lean, 'card_holds'). Laid BY PROGRAM, IN A SANDBOX (cutbox-door.mjs). By AI agents, Wed Nov 11 2026. No macro, syntax, notation, axiom, sorry.
-/
import Derived.Test.YtmcgaaihdjpdgaaDoorRows
import GoSem.ClaimSeven
namespace Go.Proofs.YtmcgaaihdjpdgaaDoor
namespace Rows

/-- THE TIED CARD OF 'barquelaw11.BlobLong'. -/
def blobLongCard : Claim7 := { stood := { row := blobLongRow, standIns := [], harness := (true, "64735dae2fe91d206dbf2ac8492154ea555725041652aeef9c8e048963b2b812"), looks := false }, kinds := [], alts := [], laidByText := true, laidKinds := [.data, .pinned], laidTests := true, laidLooks := .later }
def BlobLongCardSaid : Prop := Claim7.holds Tryd.pinned (.plain (OpenSpec.ofChange blobLongSpec)) blobLongCard

/-- THE TIED CARD OF 'barquelaw11.BlobKeeps'. -/
def blobKeepsCard : Claim7 := { stood := { row := blobKeepsRow, standIns := [], harness := (true, "64735dae2fe91d206dbf2ac8492154ea555725041652aeef9c8e048963b2b812"), looks := false }, kinds := [], alts := [], laidByText := true, laidKinds := [.data, .pinned], laidTests := true, laidLooks := .later }
def BlobKeepsCardSaid : Prop := Claim7.holds Tryd.pinned (.plain (OpenSpec.ofChange blobKeepsSpec)) blobKeepsCard

/-- THE TIED CARD OF 'barquelaw11.BlobLacks'. -/
def blobLacksCard : Claim7 := { stood := { row := blobLacksRow, standIns := [], harness := (true, "64735dae2fe91d206dbf2ac8492154ea555725041652aeef9c8e048963b2b812"), looks := false }, kinds := [], alts := [], laidByText := true, laidKinds := [.data, .pinned], laidTests := true, laidLooks := .later }
def BlobLacksCardSaid : Prop := Claim7.holds Tryd.pinned (.plain (OpenSpec.ofChange blobLacksSpec)) blobLacksCard

/-- THE TIED CARD OF 'barquelaw11.BlobEmpties'. -/
def blobEmptiesCard : Claim7 := { stood := { row := blobEmptiesRow, standIns := [], harness := (true, "64735dae2fe91d206dbf2ac8492154ea555725041652aeef9c8e048963b2b812"), looks := false }, kinds := [], alts := [], laidByText := true, laidKinds := [.data, .pinned], laidTests := true, laidLooks := .later }
def BlobEmptiesCardSaid : Prop := Claim7.holds Tryd.pinned (.plain (OpenSpec.ofChange blobEmptiesSpec)) blobEmptiesCard

/-- THE TIED CARD OF 'barquelaw11.BlobUnpacks'. -/
def blobUnpacksCard : Claim7 := { stood := { row := blobUnpacksRow, standIns := [], harness := (true, "64735dae2fe91d206dbf2ac8492154ea555725041652aeef9c8e048963b2b812"), looks := false }, kinds := [], alts := [], laidByText := true, laidKinds := [.data, .pinned], laidTests := true, laidLooks := .later }
def BlobUnpacksCardSaid : Prop := Claim7.holds Tryd.pinned (.plain (OpenSpec.ofChange blobUnpacksSpec)) blobUnpacksCard

/-- THE TIED CARD OF 'barquelaw11.BlobPacks'. -/
def blobPacksCard : Claim7 := { stood := { row := blobPacksRow, standIns := [], harness := (true, "64735dae2fe91d206dbf2ac8492154ea555725041652aeef9c8e048963b2b812"), looks := false }, kinds := [], alts := [], laidByText := true, laidKinds := [.data, .pinned], laidTests := true, laidLooks := .later }
def BlobPacksCardSaid : Prop := Claim7.holds Tryd.pinned (.plain (OpenSpec.ofChange blobPacksSpec)) blobPacksCard

/-- THE TIED CARD OF 'barquelaw11.BlobNobody'. -/
def blobNobodyCard : Claim7 := { stood := { row := blobNobodyRow, standIns := [], harness := (true, "64735dae2fe91d206dbf2ac8492154ea555725041652aeef9c8e048963b2b812"), looks := false }, kinds := [], alts := [], laidByText := true, laidKinds := [.data, .pinned], laidTests := true, laidLooks := .later }
def BlobNobodyCardSaid : Prop := Claim7.holds Tryd.pinned (.plain (OpenSpec.ofChange blobNobodySpec)) blobNobodyCard

/-- THE SECOND FORM's CARD OF 'barquelaw11.BlobLong'. -/
def blobLongUptoCard : Claim7 := { stood := { row := blobLongUptoRow, standIns := [], harness := (true, "64735dae2fe91d206dbf2ac8492154ea555725041652aeef9c8e048963b2b812"), looks := false }, kinds := [], alts := [], laidByText := true, laidKinds := [.data, .pinned], laidTests := true, laidLooks := .later }
def BlobLongUptoCardSaid : Prop := Claim7.holds Tryd.pinned (.plain (OpenSpec.upto blobLongSpec)) blobLongUptoCard

/-- THE SECOND FORM's CARD OF 'barquelaw11.BlobKeeps'. -/
def blobKeepsUptoCard : Claim7 := { stood := { row := blobKeepsUptoRow, standIns := [], harness := (true, "64735dae2fe91d206dbf2ac8492154ea555725041652aeef9c8e048963b2b812"), looks := false }, kinds := [], alts := [], laidByText := true, laidKinds := [.data, .pinned], laidTests := true, laidLooks := .later }
def BlobKeepsUptoCardSaid : Prop := Claim7.holds Tryd.pinned (.plain (OpenSpec.upto blobKeepsSpec)) blobKeepsUptoCard

/-- THE SECOND FORM's CARD OF 'barquelaw11.BlobLacks'. -/
def blobLacksUptoCard : Claim7 := { stood := { row := blobLacksUptoRow, standIns := [], harness := (true, "64735dae2fe91d206dbf2ac8492154ea555725041652aeef9c8e048963b2b812"), looks := false }, kinds := [], alts := [], laidByText := true, laidKinds := [.data, .pinned], laidTests := true, laidLooks := .later }
def BlobLacksUptoCardSaid : Prop := Claim7.holds Tryd.pinned (.plain (OpenSpec.upto blobLacksSpec)) blobLacksUptoCard

/-- THE SECOND FORM's CARD OF 'barquelaw11.BlobEmpties'. -/
def blobEmptiesUptoCard : Claim7 := { stood := { row := blobEmptiesUptoRow, standIns := [], harness := (true, "64735dae2fe91d206dbf2ac8492154ea555725041652aeef9c8e048963b2b812"), looks := false }, kinds := [], alts := [], laidByText := true, laidKinds := [.data, .pinned], laidTests := true, laidLooks := .later }
def BlobEmptiesUptoCardSaid : Prop := Claim7.holds Tryd.pinned (.plain (OpenSpec.upto blobEmptiesSpec)) blobEmptiesUptoCard

/-- THE SECOND FORM's CARD OF 'barquelaw11.BlobUnpacks'. -/
def blobUnpacksUptoCard : Claim7 := { stood := { row := blobUnpacksUptoRow, standIns := [], harness := (true, "64735dae2fe91d206dbf2ac8492154ea555725041652aeef9c8e048963b2b812"), looks := false }, kinds := [], alts := [], laidByText := true, laidKinds := [.data, .pinned], laidTests := true, laidLooks := .later }
def BlobUnpacksUptoCardSaid : Prop := Claim7.holds Tryd.pinned (.plain (OpenSpec.upto blobUnpacksSpec)) blobUnpacksUptoCard

/-- THE SECOND FORM's CARD OF 'barquelaw11.BlobPacks'. -/
def blobPacksUptoCard : Claim7 := { stood := { row := blobPacksUptoRow, standIns := [], harness := (true, "64735dae2fe91d206dbf2ac8492154ea555725041652aeef9c8e048963b2b812"), looks := false }, kinds := [], alts := [], laidByText := true, laidKinds := [.data, .pinned], laidTests := true, laidLooks := .later }
def BlobPacksUptoCardSaid : Prop := Claim7.holds Tryd.pinned (.plain (OpenSpec.upto blobPacksSpec)) blobPacksUptoCard

/-- THE SECOND FORM's CARD OF 'barquelaw11.BlobNobody'. -/
def blobNobodyUptoCard : Claim7 := { stood := { row := blobNobodyUptoRow, standIns := [], harness := (true, "64735dae2fe91d206dbf2ac8492154ea555725041652aeef9c8e048963b2b812"), looks := false }, kinds := [], alts := [], laidByText := true, laidKinds := [.data, .pinned], laidTests := true, laidLooks := .later }
def BlobNobodyUptoCardSaid : Prop := Claim7.holds Tryd.pinned (.plain (OpenSpec.upto blobNobodySpec)) blobNobodyUptoCard
end Rows
end Go.Proofs.YtmcgaaihdjpdgaaDoor
