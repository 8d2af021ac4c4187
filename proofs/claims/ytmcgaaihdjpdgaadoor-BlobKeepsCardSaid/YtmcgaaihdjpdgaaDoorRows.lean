/-
  NARROWER THAN 'FOR EVERY INPUT', by the rows' own cells (each row's printed sentence says how): BlobLong: laid · BlobKeeps: laid · BlobLacks: laid · BlobEmpties: laid · BlobUnpacks: laid · BlobPacks: laid · BlobNobody: laid.
  DERIVED. THE GIVEN ROWS OF THIS SEAT. 7 by the template 'for every input the law returns true; each argument reads behind the call as it read before'; 0 by the template 'total and deterministic' (their statements: YtmcgaaihdjpdgaaDoorTotals.lean).
  GIVEN WITH THE SEED: the statements are not yours to turn. If you find one false, say at which input.
  Laid BY PROGRAM, IN A SANDBOX (cutbox-rows.mjs): the forced cells as the released guide's own fill.sh prints them over the translation 5e9b60de23af7ed5… (all of the seat's roots in one cut). By AI agents, Wed Nov 11 2026. No macro, syntax, notation, axiom, sorry.
-/
import Derived.Test.YtmcgaaihdjpdgaaDoorChecked
import GoSem.PinnedTables
import GoSem.Claim
import GoSem.ClaimJoined
import GoSem.ClaimMapViews
import Derived.JoinedTies
import Derived.KernelRfl
namespace Go.Proofs.YtmcgaaihdjpdgaaDoor
/- THE CELL 'sum', in the pinned program and in every row, IS THE sha256 OF THE DUMP (.gsa) THAT YtmcgaaihdjpdgaaDoorProg.lean LOADS. Nothing in Lean hashes anything: it is a label: what it is worth is what the hold of that sum in a sandbox is worth. -/
noncomputable def Tryd.pinned : Pinned := { name := "ytmcgaaihdjpdgaadoor", sum := "5e9b60de23af7ed5ff6e3badaa0316d5f6080ef7715d0e58787818ff95af5b03", checked := Tryd.checked }
namespace Rows
def none {H : Type} : Left H := { results := [], args := [] }

/- WHAT THE LISTED PACKAGE-LEVEL VARIABLES READ AS WHEN THE CALL BEGINS. Each datum BY PROGRAM (the guide's laid-datum.mjs) off the statement by which the dump's own 'gosem.cut.vars' lays the variable. In a bare row this is a premise. The card (YtmcgaaihdjpdgaaDoorCards.lean) ties it to the program's text. -/
def laid_unicode_utf8_acceptRanges {H : Type} : DataW H := .agg [.agg [.lit (.int .u8 128), .lit (.int .u8 191)], .agg [.lit (.int .u8 160), .lit (.int .u8 191)], .agg [.lit (.int .u8 128), .lit (.int .u8 159)], .agg [.lit (.int .u8 144), .lit (.int .u8 191)], .agg [.lit (.int .u8 128), .lit (.int .u8 143)], .agg [.lit (.int .u8 0), .lit (.int .u8 0)], .agg [.lit (.int .u8 0), .lit (.int .u8 0)], .agg [.lit (.int .u8 0), .lit (.int .u8 0)], .agg [.lit (.int .u8 0), .lit (.int .u8 0)], .agg [.lit (.int .u8 0), .lit (.int .u8 0)], .agg [.lit (.int .u8 0), .lit (.int .u8 0)], .agg [.lit (.int .u8 0), .lit (.int .u8 0)], .agg [.lit (.int .u8 0), .lit (.int .u8 0)], .agg [.lit (.int .u8 0), .lit (.int .u8 0)], .agg [.lit (.int .u8 0), .lit (.int .u8 0)], .agg [.lit (.int .u8 0), .lit (.int .u8 0)]]
/-- One of Go's own tables, pinned by name: the form's constant. -/
def laid_unicode_utf8_first : DataW Unit := Go.Pinned.utf8First

/-- 'barquelaw11.BlobLong': WHATEVER THE INPUT: true; the input reads as it did. -/
def blobLongSpec : ChangeSpec := { name := "blobLong", fn := fun _ => fun
  | [d] => { results := [.lit (.bool true)], args := [d] }
  | _ => none }
def blobLongRow : OpenClaim := { program := "ytmcgaaihdjpdgaadoor", sum := "5e9b60de23af7ed5ff6e3badaa0316d5f6080ef7715d0e58787818ff95af5b03", func := "barque/barquelaw11.BlobLong", spec := "blobLong", inPlace := ["internal/bytealg.CountString", "internal/bytealg.IndexByteString", "internal/bytealg.IndexString", "internal/abi.NoEscape", "internal/bytealg.abigen_runtime_cmpstring", "slices.overlaps[barque/blob.kept]"], unfollowed := true, recurses := true, named := ["unicode/utf8.first", "unicode/utf8.acceptRanges", "internal/bytealg.MaxLen"], apart := false, laid := [("unicode/utf8.acceptRanges", laid_unicode_utf8_acceptRanges), ("unicode/utf8.first", laid_unicode_utf8_first)] }
def BlobLongSaid : Prop := blobLongRow.holds Tryd.pinned (OpenSpec.ofChange blobLongSpec)

/-- ITS FALSE NEIGHBOUR: 'it returns false'. Refute it at one input. -/
def blobLongWrong : ChangeSpec := { name := "blobLong", fn := fun _ => fun
  | [d] => { results := [.lit (.bool false)], args := [d] }
  | _ => none }
def BlobLongWrongFalsely : Prop := blobLongRow.holds Tryd.pinned (OpenSpec.ofChange blobLongWrong)

/-- 'barquelaw11.BlobKeeps': WHATEVER THE INPUT: true; the input reads as it did. -/
def blobKeepsSpec : ChangeSpec := { name := "blobKeeps", fn := fun _ => fun
  | [d1, d2] => { results := [.lit (.bool true)], args := [d1, d2] }
  | _ => none }
def blobKeepsRow : OpenClaim := { program := "ytmcgaaihdjpdgaadoor", sum := "5e9b60de23af7ed5ff6e3badaa0316d5f6080ef7715d0e58787818ff95af5b03", func := "barque/barquelaw11.BlobKeeps", spec := "blobKeeps", inPlace := ["internal/bytealg.CountString", "internal/bytealg.IndexByteString", "internal/bytealg.IndexString", "internal/abi.NoEscape", "internal/bytealg.abigen_runtime_cmpstring", "slices.overlaps[barque/blob.kept]"], unfollowed := true, recurses := true, named := ["unicode/utf8.first", "unicode/utf8.acceptRanges", "internal/bytealg.MaxLen"], apart := false, laid := [("unicode/utf8.acceptRanges", laid_unicode_utf8_acceptRanges), ("unicode/utf8.first", laid_unicode_utf8_first)] }
def BlobKeepsSaid : Prop := blobKeepsRow.holds Tryd.pinned (OpenSpec.ofChange blobKeepsSpec)

/-- ITS FALSE NEIGHBOUR: 'it returns false'. Refute it at one input. -/
def blobKeepsWrong : ChangeSpec := { name := "blobKeeps", fn := fun _ => fun
  | [d1, d2] => { results := [.lit (.bool false)], args := [d1, d2] }
  | _ => none }
def BlobKeepsWrongFalsely : Prop := blobKeepsRow.holds Tryd.pinned (OpenSpec.ofChange blobKeepsWrong)

/-- 'barquelaw11.BlobLacks': WHATEVER THE INPUT: true; the input reads as it did. -/
def blobLacksSpec : ChangeSpec := { name := "blobLacks", fn := fun _ => fun
  | [d1, d2] => { results := [.lit (.bool true)], args := [d1, d2] }
  | _ => none }
def blobLacksRow : OpenClaim := { program := "ytmcgaaihdjpdgaadoor", sum := "5e9b60de23af7ed5ff6e3badaa0316d5f6080ef7715d0e58787818ff95af5b03", func := "barque/barquelaw11.BlobLacks", spec := "blobLacks", inPlace := ["internal/bytealg.CountString", "internal/bytealg.IndexByteString", "internal/bytealg.IndexString", "internal/abi.NoEscape", "internal/bytealg.abigen_runtime_cmpstring", "slices.overlaps[barque/blob.kept]"], unfollowed := true, recurses := true, named := ["unicode/utf8.first", "unicode/utf8.acceptRanges", "internal/bytealg.MaxLen"], apart := false, laid := [("unicode/utf8.acceptRanges", laid_unicode_utf8_acceptRanges), ("unicode/utf8.first", laid_unicode_utf8_first)] }
def BlobLacksSaid : Prop := blobLacksRow.holds Tryd.pinned (OpenSpec.ofChange blobLacksSpec)

/-- ITS FALSE NEIGHBOUR: 'it returns false'. Refute it at one input. -/
def blobLacksWrong : ChangeSpec := { name := "blobLacks", fn := fun _ => fun
  | [d1, d2] => { results := [.lit (.bool false)], args := [d1, d2] }
  | _ => none }
def BlobLacksWrongFalsely : Prop := blobLacksRow.holds Tryd.pinned (OpenSpec.ofChange blobLacksWrong)

/-- 'barquelaw11.BlobEmpties': WHATEVER THE INPUT: true; the input reads as it did. -/
def blobEmptiesSpec : ChangeSpec := { name := "blobEmpties", fn := fun _ => fun
  | [d1, d2] => { results := [.lit (.bool true)], args := [d1, d2] }
  | _ => none }
def blobEmptiesRow : OpenClaim := { program := "ytmcgaaihdjpdgaadoor", sum := "5e9b60de23af7ed5ff6e3badaa0316d5f6080ef7715d0e58787818ff95af5b03", func := "barque/barquelaw11.BlobEmpties", spec := "blobEmpties", inPlace := ["internal/bytealg.CountString", "internal/bytealg.IndexByteString", "internal/bytealg.IndexString", "internal/abi.NoEscape", "internal/bytealg.abigen_runtime_cmpstring", "slices.overlaps[barque/blob.kept]"], unfollowed := true, recurses := true, named := ["unicode/utf8.first", "unicode/utf8.acceptRanges", "internal/bytealg.MaxLen"], apart := false, laid := [("unicode/utf8.acceptRanges", laid_unicode_utf8_acceptRanges), ("unicode/utf8.first", laid_unicode_utf8_first)] }
def BlobEmptiesSaid : Prop := blobEmptiesRow.holds Tryd.pinned (OpenSpec.ofChange blobEmptiesSpec)

/-- ITS FALSE NEIGHBOUR: 'it returns false'. Refute it at one input. -/
def blobEmptiesWrong : ChangeSpec := { name := "blobEmpties", fn := fun _ => fun
  | [d1, d2] => { results := [.lit (.bool false)], args := [d1, d2] }
  | _ => none }
def BlobEmptiesWrongFalsely : Prop := blobEmptiesRow.holds Tryd.pinned (OpenSpec.ofChange blobEmptiesWrong)

/-- 'barquelaw11.BlobUnpacks': WHATEVER THE INPUT: true; the input reads as it did. -/
def blobUnpacksSpec : ChangeSpec := { name := "blobUnpacks", fn := fun _ => fun
  | [d] => { results := [.lit (.bool true)], args := [d] }
  | _ => none }
def blobUnpacksRow : OpenClaim := { program := "ytmcgaaihdjpdgaadoor", sum := "5e9b60de23af7ed5ff6e3badaa0316d5f6080ef7715d0e58787818ff95af5b03", func := "barque/barquelaw11.BlobUnpacks", spec := "blobUnpacks", inPlace := ["internal/bytealg.abigen_runtime_cmpstring", "slices.overlaps[barque/blob.kept]", "internal/bytealg.CountString", "internal/bytealg.IndexByteString", "internal/bytealg.IndexString", "internal/abi.NoEscape"], unfollowed := true, recurses := true, named := ["unicode/utf8.first", "unicode/utf8.acceptRanges", "internal/bytealg.MaxLen"], apart := false, laid := [("unicode/utf8.acceptRanges", laid_unicode_utf8_acceptRanges), ("unicode/utf8.first", laid_unicode_utf8_first)] }
def BlobUnpacksSaid : Prop := blobUnpacksRow.holds Tryd.pinned (OpenSpec.ofChange blobUnpacksSpec)

/-- ITS FALSE NEIGHBOUR: 'it returns false'. Refute it at one input. -/
def blobUnpacksWrong : ChangeSpec := { name := "blobUnpacks", fn := fun _ => fun
  | [d] => { results := [.lit (.bool false)], args := [d] }
  | _ => none }
def BlobUnpacksWrongFalsely : Prop := blobUnpacksRow.holds Tryd.pinned (OpenSpec.ofChange blobUnpacksWrong)

/-- 'barquelaw11.BlobPacks': WHATEVER THE INPUT: true; the input reads as it did. -/
def blobPacksSpec : ChangeSpec := { name := "blobPacks", fn := fun _ => fun
  | [d1, d2] => { results := [.lit (.bool true)], args := [d1, d2] }
  | _ => none }
def blobPacksRow : OpenClaim := { program := "ytmcgaaihdjpdgaadoor", sum := "5e9b60de23af7ed5ff6e3badaa0316d5f6080ef7715d0e58787818ff95af5b03", func := "barque/barquelaw11.BlobPacks", spec := "blobPacks", inPlace := ["internal/bytealg.abigen_runtime_cmpstring", "slices.overlaps[barque/blob.kept]", "internal/bytealg.CountString", "internal/bytealg.IndexByteString", "internal/bytealg.IndexString", "internal/abi.NoEscape"], unfollowed := true, recurses := true, named := ["unicode/utf8.first", "unicode/utf8.acceptRanges", "internal/bytealg.MaxLen"], apart := false, laid := [("unicode/utf8.acceptRanges", laid_unicode_utf8_acceptRanges), ("unicode/utf8.first", laid_unicode_utf8_first)] }
def BlobPacksSaid : Prop := blobPacksRow.holds Tryd.pinned (OpenSpec.ofChange blobPacksSpec)

/-- ITS FALSE NEIGHBOUR: 'it returns false'. Refute it at one input. -/
def blobPacksWrong : ChangeSpec := { name := "blobPacks", fn := fun _ => fun
  | [d1, d2] => { results := [.lit (.bool false)], args := [d1, d2] }
  | _ => none }
def BlobPacksWrongFalsely : Prop := blobPacksRow.holds Tryd.pinned (OpenSpec.ofChange blobPacksWrong)

/-- 'barquelaw11.BlobNobody': WHATEVER THE INPUT: true; the input reads as it did. -/
def blobNobodySpec : ChangeSpec := { name := "blobNobody", fn := fun _ => fun
  | [d1, d2] => { results := [.lit (.bool true)], args := [d1, d2] }
  | _ => none }
def blobNobodyRow : OpenClaim := { program := "ytmcgaaihdjpdgaadoor", sum := "5e9b60de23af7ed5ff6e3badaa0316d5f6080ef7715d0e58787818ff95af5b03", func := "barque/barquelaw11.BlobNobody", spec := "blobNobody", inPlace := ["internal/bytealg.abigen_runtime_cmpstring", "slices.overlaps[barque/blob.kept]", "internal/bytealg.CountString", "internal/bytealg.IndexByteString", "internal/bytealg.IndexString", "internal/abi.NoEscape"], unfollowed := true, recurses := true, named := ["unicode/utf8.first", "unicode/utf8.acceptRanges", "internal/bytealg.MaxLen"], apart := false, laid := [("unicode/utf8.acceptRanges", laid_unicode_utf8_acceptRanges), ("unicode/utf8.first", laid_unicode_utf8_first)] }
def BlobNobodySaid : Prop := blobNobodyRow.holds Tryd.pinned (OpenSpec.ofChange blobNobodySpec)

/-- ITS FALSE NEIGHBOUR: 'it returns false'. Refute it at one input. -/
def blobNobodyWrong : ChangeSpec := { name := "blobNobody", fn := fun _ => fun
  | [d1, d2] => { results := [.lit (.bool false)], args := [d1, d2] }
  | _ => none }
def BlobNobodyWrongFalsely : Prop := blobNobodyRow.holds Tryd.pinned (OpenSpec.ofChange blobNobodyWrong)

/- THE SECOND FORM. 'bulk': how many values and letters a reading holds, each counted each time it is reached (what is shared counts as often as it is met; a slice's spare places count too). A statement '..UptoSaid' is the law's where the arguments, and the package variables that the reading takes, are together of bulk at most 1048576: NARROWER than '..Said'. Prove '..Said' where nothing that the law and all that it calls make is longer than what came in: it says more and counts as full. Else prove '..UptoSaid'. A law counts once. -/
mutual
def uptoBulk {H : Type} : DataW H → Nat
  | .lit (.string bytes) => bytes.length + 1
  | .lit _ => 1
  | .nil => 1
  | .ptr d => uptoBulk d + 1
  | .slice elems spare => uptoBulkAll elems + uptoBulkAll spare + 1
  | .agg parts => uptoBulkAll parts + 1
  | .iface _ d => uptoBulk d + 1
  | .map entries => uptoBulkEntries entries + 1
  | .held _ => 1
def uptoBulkAll {H : Type} : List (DataW H) → Nat
  | [] => 0
  | d :: r => uptoBulk d + uptoBulkAll r
def uptoBulkEntries {H : Type} : List (Lit × DataW H) → Nat
  | [] => 0
  | x :: r => uptoBulkEntry x + uptoBulkEntries r
def uptoBulkEntry {H : Type} : Lit × DataW H → Nat
  | (.string bytes, d) => bytes.length + uptoBulk d + 1
  | (_, d) => uptoBulk d + 1
 end
def uptoSmall : (H : Type) → List (DataW H) → Bool := fun _ ds => decide (uptoBulkAll ds ≤ 1048576)
def OpenSpec.upto (s : _root_.Go.ChangeSpec) : _root_.Go.OpenSpec := { _root_.Go.OpenSpec.ofChange s with cond := some uptoSmall }

/-- 'barquelaw11.BlobLong', WHERE WHAT IT READS IS OF BULK AT MOST 1048576: true; the input reads as it did. -/
def blobLongUptoRow : OpenClaim := { program := "ytmcgaaihdjpdgaadoor", sum := "5e9b60de23af7ed5ff6e3badaa0316d5f6080ef7715d0e58787818ff95af5b03", func := "barque/barquelaw11.BlobLong", spec := "blobLong", inPlace := ["internal/bytealg.CountString", "internal/bytealg.IndexByteString", "internal/bytealg.IndexString", "internal/abi.NoEscape", "internal/bytealg.abigen_runtime_cmpstring", "slices.overlaps[barque/blob.kept]"], unfollowed := true, recurses := true, named := ["unicode/utf8.first", "unicode/utf8.acceptRanges", "internal/bytealg.MaxLen"], apart := false, laid := [("unicode/utf8.acceptRanges", laid_unicode_utf8_acceptRanges), ("unicode/utf8.first", laid_unicode_utf8_first)], narrowed := true }
def BlobLongUptoSaid : Prop := blobLongUptoRow.holds Tryd.pinned (OpenSpec.upto blobLongSpec)

/-- 'barquelaw11.BlobKeeps', WHERE WHAT IT READS IS OF BULK AT MOST 1048576: true; the input reads as it did. -/
def blobKeepsUptoRow : OpenClaim := { program := "ytmcgaaihdjpdgaadoor", sum := "5e9b60de23af7ed5ff6e3badaa0316d5f6080ef7715d0e58787818ff95af5b03", func := "barque/barquelaw11.BlobKeeps", spec := "blobKeeps", inPlace := ["internal/bytealg.CountString", "internal/bytealg.IndexByteString", "internal/bytealg.IndexString", "internal/abi.NoEscape", "internal/bytealg.abigen_runtime_cmpstring", "slices.overlaps[barque/blob.kept]"], unfollowed := true, recurses := true, named := ["unicode/utf8.first", "unicode/utf8.acceptRanges", "internal/bytealg.MaxLen"], apart := false, laid := [("unicode/utf8.acceptRanges", laid_unicode_utf8_acceptRanges), ("unicode/utf8.first", laid_unicode_utf8_first)], narrowed := true }
def BlobKeepsUptoSaid : Prop := blobKeepsUptoRow.holds Tryd.pinned (OpenSpec.upto blobKeepsSpec)

/-- 'barquelaw11.BlobLacks', WHERE WHAT IT READS IS OF BULK AT MOST 1048576: true; the input reads as it did. -/
def blobLacksUptoRow : OpenClaim := { program := "ytmcgaaihdjpdgaadoor", sum := "5e9b60de23af7ed5ff6e3badaa0316d5f6080ef7715d0e58787818ff95af5b03", func := "barque/barquelaw11.BlobLacks", spec := "blobLacks", inPlace := ["internal/bytealg.CountString", "internal/bytealg.IndexByteString", "internal/bytealg.IndexString", "internal/abi.NoEscape", "internal/bytealg.abigen_runtime_cmpstring", "slices.overlaps[barque/blob.kept]"], unfollowed := true, recurses := true, named := ["unicode/utf8.first", "unicode/utf8.acceptRanges", "internal/bytealg.MaxLen"], apart := false, laid := [("unicode/utf8.acceptRanges", laid_unicode_utf8_acceptRanges), ("unicode/utf8.first", laid_unicode_utf8_first)], narrowed := true }
def BlobLacksUptoSaid : Prop := blobLacksUptoRow.holds Tryd.pinned (OpenSpec.upto blobLacksSpec)

/-- 'barquelaw11.BlobEmpties', WHERE WHAT IT READS IS OF BULK AT MOST 1048576: true; the input reads as it did. -/
def blobEmptiesUptoRow : OpenClaim := { program := "ytmcgaaihdjpdgaadoor", sum := "5e9b60de23af7ed5ff6e3badaa0316d5f6080ef7715d0e58787818ff95af5b03", func := "barque/barquelaw11.BlobEmpties", spec := "blobEmpties", inPlace := ["internal/bytealg.CountString", "internal/bytealg.IndexByteString", "internal/bytealg.IndexString", "internal/abi.NoEscape", "internal/bytealg.abigen_runtime_cmpstring", "slices.overlaps[barque/blob.kept]"], unfollowed := true, recurses := true, named := ["unicode/utf8.first", "unicode/utf8.acceptRanges", "internal/bytealg.MaxLen"], apart := false, laid := [("unicode/utf8.acceptRanges", laid_unicode_utf8_acceptRanges), ("unicode/utf8.first", laid_unicode_utf8_first)], narrowed := true }
def BlobEmptiesUptoSaid : Prop := blobEmptiesUptoRow.holds Tryd.pinned (OpenSpec.upto blobEmptiesSpec)

/-- 'barquelaw11.BlobUnpacks', WHERE WHAT IT READS IS OF BULK AT MOST 1048576: true; the input reads as it did. -/
def blobUnpacksUptoRow : OpenClaim := { program := "ytmcgaaihdjpdgaadoor", sum := "5e9b60de23af7ed5ff6e3badaa0316d5f6080ef7715d0e58787818ff95af5b03", func := "barque/barquelaw11.BlobUnpacks", spec := "blobUnpacks", inPlace := ["internal/bytealg.abigen_runtime_cmpstring", "slices.overlaps[barque/blob.kept]", "internal/bytealg.CountString", "internal/bytealg.IndexByteString", "internal/bytealg.IndexString", "internal/abi.NoEscape"], unfollowed := true, recurses := true, named := ["unicode/utf8.first", "unicode/utf8.acceptRanges", "internal/bytealg.MaxLen"], apart := false, laid := [("unicode/utf8.acceptRanges", laid_unicode_utf8_acceptRanges), ("unicode/utf8.first", laid_unicode_utf8_first)], narrowed := true }
def BlobUnpacksUptoSaid : Prop := blobUnpacksUptoRow.holds Tryd.pinned (OpenSpec.upto blobUnpacksSpec)

/-- 'barquelaw11.BlobPacks', WHERE WHAT IT READS IS OF BULK AT MOST 1048576: true; the input reads as it did. -/
def blobPacksUptoRow : OpenClaim := { program := "ytmcgaaihdjpdgaadoor", sum := "5e9b60de23af7ed5ff6e3badaa0316d5f6080ef7715d0e58787818ff95af5b03", func := "barque/barquelaw11.BlobPacks", spec := "blobPacks", inPlace := ["internal/bytealg.abigen_runtime_cmpstring", "slices.overlaps[barque/blob.kept]", "internal/bytealg.CountString", "internal/bytealg.IndexByteString", "internal/bytealg.IndexString", "internal/abi.NoEscape"], unfollowed := true, recurses := true, named := ["unicode/utf8.first", "unicode/utf8.acceptRanges", "internal/bytealg.MaxLen"], apart := false, laid := [("unicode/utf8.acceptRanges", laid_unicode_utf8_acceptRanges), ("unicode/utf8.first", laid_unicode_utf8_first)], narrowed := true }
def BlobPacksUptoSaid : Prop := blobPacksUptoRow.holds Tryd.pinned (OpenSpec.upto blobPacksSpec)

/-- 'barquelaw11.BlobNobody', WHERE WHAT IT READS IS OF BULK AT MOST 1048576: true; the input reads as it did. -/
def blobNobodyUptoRow : OpenClaim := { program := "ytmcgaaihdjpdgaadoor", sum := "5e9b60de23af7ed5ff6e3badaa0316d5f6080ef7715d0e58787818ff95af5b03", func := "barque/barquelaw11.BlobNobody", spec := "blobNobody", inPlace := ["internal/bytealg.abigen_runtime_cmpstring", "slices.overlaps[barque/blob.kept]", "internal/bytealg.CountString", "internal/bytealg.IndexByteString", "internal/bytealg.IndexString", "internal/abi.NoEscape"], unfollowed := true, recurses := true, named := ["unicode/utf8.first", "unicode/utf8.acceptRanges", "internal/bytealg.MaxLen"], apart := false, laid := [("unicode/utf8.acceptRanges", laid_unicode_utf8_acceptRanges), ("unicode/utf8.first", laid_unicode_utf8_first)], narrowed := true }
def BlobNobodyUptoSaid : Prop := blobNobodyUptoRow.holds Tryd.pinned (OpenSpec.upto blobNobodySpec)

end Rows
end Go.Proofs.YtmcgaaihdjpdgaaDoor
