/-
  DERIVED. GIVEN WITH THE SEED: THE CARDS: each row of YtakdngcgjahafaaDoorRows.lean that lists a variable, with what it lists TIED to the program's text (the seventh form; the later family's looks); each row that meets fmt, with fmt's text TOLD by the authors' own Lean function (tested against real Go, not proved from fmt's source: count such statements apart). THE CARD IS WHAT COUNTS. Prove the row's statement (the work); the ties are given (YtakdngcgjahafaaDoorTie.lean); close each card by the builder's one call (the guide's Derived/Test/ToyasCard.lean, 'card_holds'). Laid BY PROGRAM, IN A SANDBOX (cutbox-door.mjs). By AI agents, Wed Nov 11 2026. No macro, syntax, notation, axiom, sorry.
-/
import Derived.Test.YtakdngcgjahafaaDoorRows
import GoSem.ClaimSeven
namespace Go.Proofs.YtakdngcgjahafaaDoor
namespace Rows

/-- THE TIED CARD OF 'barquelaw22.SpeechDoes'. -/
def speechDoesCard : Claim7 := { stood := { row := speechDoesRow, standIns := [], harness := (true, "6e773be2c5210c53489be0f595a47331298a8bc4b50a5768151437b821b8f9e2"), looks := false }, kinds := [], alts := [], laidByText := true, laidKinds := [.data, .pinned], laidTests := true, laidLooks := .later }
def SpeechDoesCardSaid : Prop := Claim7.holds Tryd.pinned (.plain (OpenSpec.ofChange speechDoesSpec)) speechDoesCard

/-- THE TIED CARD OF 'barquelaw22.SpeechFinds'. -/
def speechFindsCard : Claim7 := { stood := { row := speechFindsRow, standIns := [], harness := (true, "6e773be2c5210c53489be0f595a47331298a8bc4b50a5768151437b821b8f9e2"), looks := false }, kinds := [], alts := [], laidByText := true, laidKinds := [.data, .pinned], laidTests := true, laidLooks := .later }
def SpeechFindsCardSaid : Prop := Claim7.holds Tryd.pinned (.plain (OpenSpec.ofChange speechFindsSpec)) speechFindsCard

/-- THE TIED CARD OF 'barquelaw22.SpeechSound'. -/
def speechSoundCard : Claim7 := { stood := { row := speechSoundRow, standIns := [], harness := (true, "6e773be2c5210c53489be0f595a47331298a8bc4b50a5768151437b821b8f9e2"), looks := false }, kinds := [], alts := [], laidByText := true, laidKinds := [.data, .pinned], laidTests := true, laidLooks := .later }
def SpeechSoundCardSaid : Prop := Claim7.holds Tryd.pinned (.plain (OpenSpec.ofChange speechSoundSpec)) speechSoundCard

/-- THE TIED CARD OF 'barquelaw22.SpeechTrue'. -/
def speechTrueCard : Claim7 := { stood := { row := speechTrueRow, standIns := [], harness := (true, "6e773be2c5210c53489be0f595a47331298a8bc4b50a5768151437b821b8f9e2"), looks := false }, kinds := [], alts := [], laidByText := true, laidKinds := [.data, .pinned], laidTests := true, laidLooks := .later }
def SpeechTrueCardSaid : Prop := Claim7.holds Tryd.pinned (.plain (OpenSpec.ofChange speechTrueSpec)) speechTrueCard

/-- THE TIED CARD OF 'barquelaw22.SpeechRestores'. -/
def speechRestoresCard : Claim7 := { stood := { row := speechRestoresRow, standIns := [], harness := (true, "6e773be2c5210c53489be0f595a47331298a8bc4b50a5768151437b821b8f9e2"), looks := false }, kinds := [], alts := [], laidByText := true, laidKinds := [.data, .pinned], laidTests := true, laidLooks := .later }
def SpeechRestoresCardSaid : Prop := Claim7.holds Tryd.pinned (.plain (OpenSpec.ofChange speechRestoresSpec)) speechRestoresCard

/-- THE TIED CARD OF 'barquelaw22.SpeechHolds'. -/
def speechHoldsCard : Claim7 := { stood := { row := speechHoldsRow, standIns := [], harness := (true, "6e773be2c5210c53489be0f595a47331298a8bc4b50a5768151437b821b8f9e2"), looks := false }, kinds := [], alts := [], laidByText := true, laidKinds := [.data, .pinned], laidTests := true, laidLooks := .later }
def SpeechHoldsCardSaid : Prop := Claim7.holds Tryd.pinned (.plain (OpenSpec.ofChange speechHoldsSpec)) speechHoldsCard

/-- THE TIED CARD OF 'barquelaw22.SpeechAcked'. -/
def speechAckedCard : Claim7 := { stood := { row := speechAckedRow, standIns := [], harness := (true, "6e773be2c5210c53489be0f595a47331298a8bc4b50a5768151437b821b8f9e2"), looks := false }, kinds := [], alts := [], laidByText := true, laidKinds := [.data, .pinned], laidTests := true, laidLooks := .later }
def SpeechAckedCardSaid : Prop := Claim7.holds Tryd.pinned (.plain (OpenSpec.ofChange speechAckedSpec)) speechAckedCard

/-- THE TIED CARD OF 'barquelaw22.SpeechCuts'. -/
def speechCutsCard : Claim7 := { stood := { row := speechCutsRow, standIns := [], harness := (true, "6e773be2c5210c53489be0f595a47331298a8bc4b50a5768151437b821b8f9e2"), looks := false }, kinds := [], alts := [], laidByText := true, laidKinds := [.data, .pinned], laidTests := true, laidLooks := .later }
def SpeechCutsCardSaid : Prop := Claim7.holds Tryd.pinned (.plain (OpenSpec.ofChange speechCutsSpec)) speechCutsCard

/-- THE TIED CARD OF 'barquelaw22.SpeechLogs'. -/
def speechLogsCard : Claim7 := { stood := { row := speechLogsRow, standIns := [], harness := (true, "6e773be2c5210c53489be0f595a47331298a8bc4b50a5768151437b821b8f9e2"), looks := false }, kinds := [], alts := [], laidByText := true, laidKinds := [.data, .pinned], laidTests := true, laidLooks := .later }
def SpeechLogsCardSaid : Prop := Claim7.holds Tryd.pinned (.plain (OpenSpec.ofChange speechLogsSpec)) speechLogsCard

/-- THE TIED CARD OF 'barquelaw22.SpeechKept'. -/
def speechKeptCard : Claim7 := { stood := { row := speechKeptRow, standIns := [], harness := (true, "6e773be2c5210c53489be0f595a47331298a8bc4b50a5768151437b821b8f9e2"), looks := false }, kinds := [], alts := [], laidByText := true, laidKinds := [.data, .pinned], laidTests := true, laidLooks := .later }
def SpeechKeptCardSaid : Prop := Claim7.holds Tryd.pinned (.plain (OpenSpec.ofChange speechKeptSpec)) speechKeptCard

/-- THE SECOND FORM's CARD OF 'barquelaw22.SpeechDoes'. -/
def speechDoesUptoCard : Claim7 := { stood := { row := speechDoesUptoRow, standIns := [], harness := (true, "6e773be2c5210c53489be0f595a47331298a8bc4b50a5768151437b821b8f9e2"), looks := false }, kinds := [], alts := [], laidByText := true, laidKinds := [.data, .pinned], laidTests := true, laidLooks := .later }
def SpeechDoesUptoCardSaid : Prop := Claim7.holds Tryd.pinned (.plain (OpenSpec.upto speechDoesSpec)) speechDoesUptoCard

/-- THE SECOND FORM's CARD OF 'barquelaw22.SpeechFinds'. -/
def speechFindsUptoCard : Claim7 := { stood := { row := speechFindsUptoRow, standIns := [], harness := (true, "6e773be2c5210c53489be0f595a47331298a8bc4b50a5768151437b821b8f9e2"), looks := false }, kinds := [], alts := [], laidByText := true, laidKinds := [.data, .pinned], laidTests := true, laidLooks := .later }
def SpeechFindsUptoCardSaid : Prop := Claim7.holds Tryd.pinned (.plain (OpenSpec.upto speechFindsSpec)) speechFindsUptoCard

/-- THE SECOND FORM's CARD OF 'barquelaw22.SpeechSound'. -/
def speechSoundUptoCard : Claim7 := { stood := { row := speechSoundUptoRow, standIns := [], harness := (true, "6e773be2c5210c53489be0f595a47331298a8bc4b50a5768151437b821b8f9e2"), looks := false }, kinds := [], alts := [], laidByText := true, laidKinds := [.data, .pinned], laidTests := true, laidLooks := .later }
def SpeechSoundUptoCardSaid : Prop := Claim7.holds Tryd.pinned (.plain (OpenSpec.upto speechSoundSpec)) speechSoundUptoCard

/-- THE SECOND FORM's CARD OF 'barquelaw22.SpeechTrue'. -/
def speechTrueUptoCard : Claim7 := { stood := { row := speechTrueUptoRow, standIns := [], harness := (true, "6e773be2c5210c53489be0f595a47331298a8bc4b50a5768151437b821b8f9e2"), looks := false }, kinds := [], alts := [], laidByText := true, laidKinds := [.data, .pinned], laidTests := true, laidLooks := .later }
def SpeechTrueUptoCardSaid : Prop := Claim7.holds Tryd.pinned (.plain (OpenSpec.upto speechTrueSpec)) speechTrueUptoCard

/-- THE SECOND FORM's CARD OF 'barquelaw22.SpeechRestores'. -/
def speechRestoresUptoCard : Claim7 := { stood := { row := speechRestoresUptoRow, standIns := [], harness := (true, "6e773be2c5210c53489be0f595a47331298a8bc4b50a5768151437b821b8f9e2"), looks := false }, kinds := [], alts := [], laidByText := true, laidKinds := [.data, .pinned], laidTests := true, laidLooks := .later }
def SpeechRestoresUptoCardSaid : Prop := Claim7.holds Tryd.pinned (.plain (OpenSpec.upto speechRestoresSpec)) speechRestoresUptoCard

/-- THE SECOND FORM's CARD OF 'barquelaw22.SpeechHolds'. -/
def speechHoldsUptoCard : Claim7 := { stood := { row := speechHoldsUptoRow, standIns := [], harness := (true, "6e773be2c5210c53489be0f595a47331298a8bc4b50a5768151437b821b8f9e2"), looks := false }, kinds := [], alts := [], laidByText := true, laidKinds := [.data, .pinned], laidTests := true, laidLooks := .later }
def SpeechHoldsUptoCardSaid : Prop := Claim7.holds Tryd.pinned (.plain (OpenSpec.upto speechHoldsSpec)) speechHoldsUptoCard

/-- THE SECOND FORM's CARD OF 'barquelaw22.SpeechAcked'. -/
def speechAckedUptoCard : Claim7 := { stood := { row := speechAckedUptoRow, standIns := [], harness := (true, "6e773be2c5210c53489be0f595a47331298a8bc4b50a5768151437b821b8f9e2"), looks := false }, kinds := [], alts := [], laidByText := true, laidKinds := [.data, .pinned], laidTests := true, laidLooks := .later }
def SpeechAckedUptoCardSaid : Prop := Claim7.holds Tryd.pinned (.plain (OpenSpec.upto speechAckedSpec)) speechAckedUptoCard

/-- THE SECOND FORM's CARD OF 'barquelaw22.SpeechCuts'. -/
def speechCutsUptoCard : Claim7 := { stood := { row := speechCutsUptoRow, standIns := [], harness := (true, "6e773be2c5210c53489be0f595a47331298a8bc4b50a5768151437b821b8f9e2"), looks := false }, kinds := [], alts := [], laidByText := true, laidKinds := [.data, .pinned], laidTests := true, laidLooks := .later }
def SpeechCutsUptoCardSaid : Prop := Claim7.holds Tryd.pinned (.plain (OpenSpec.upto speechCutsSpec)) speechCutsUptoCard

/-- THE SECOND FORM's CARD OF 'barquelaw22.SpeechLogs'. -/
def speechLogsUptoCard : Claim7 := { stood := { row := speechLogsUptoRow, standIns := [], harness := (true, "6e773be2c5210c53489be0f595a47331298a8bc4b50a5768151437b821b8f9e2"), looks := false }, kinds := [], alts := [], laidByText := true, laidKinds := [.data, .pinned], laidTests := true, laidLooks := .later }
def SpeechLogsUptoCardSaid : Prop := Claim7.holds Tryd.pinned (.plain (OpenSpec.upto speechLogsSpec)) speechLogsUptoCard

/-- THE SECOND FORM's CARD OF 'barquelaw22.SpeechKept'. -/
def speechKeptUptoCard : Claim7 := { stood := { row := speechKeptUptoRow, standIns := [], harness := (true, "6e773be2c5210c53489be0f595a47331298a8bc4b50a5768151437b821b8f9e2"), looks := false }, kinds := [], alts := [], laidByText := true, laidKinds := [.data, .pinned], laidTests := true, laidLooks := .later }
def SpeechKeptUptoCardSaid : Prop := Claim7.holds Tryd.pinned (.plain (OpenSpec.upto speechKeptSpec)) speechKeptUptoCard
end Rows
end Go.Proofs.YtakdngcgjahafaaDoor
