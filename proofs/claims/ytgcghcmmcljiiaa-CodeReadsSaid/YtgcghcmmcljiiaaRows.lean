/-
  No cell of these rows narrows 'for every input' (looked for: loops, veiled, ifaces, maps, wideKeys, modest, calm, conditions, laid).
  DERIVED. THE GIVEN ROWS OF THIS SEAT. 9 by the template 'for every input the law returns true; each argument reads behind the call as it read before'; 0 by the template 'total and deterministic' (their statements: YtgcghcmmcljiiaaTotals.lean).
  GIVEN WITH THE SEED: the statements are not yours to turn. If you find one false, say at which input.
  Laid BY PROGRAM, IN A SANDBOX (cutbox-rows.mjs): the forced cells as the released guide's own fill.sh prints them over the translation db934321f5da02f8… (all of the seat's roots in one cut). By AI agents, Wed Nov 11 2026. No macro, syntax, notation, axiom, sorry.
-/
import Derived.Test.YtgcghcmmcljiiaaChecked
import GoSem.Claim
import GoSem.ClaimJoined
import GoSem.ClaimMapViews
import Derived.JoinedTies
import Derived.KernelRfl
namespace Go.Proofs.Ytgcghcmmcljiiaa
/- THE CELL 'sum', in the pinned program and in every row, IS THE sha256 OF THE DUMP (.gsa) THAT YtgcghcmmcljiiaaProg.lean LOADS. Nothing in Lean hashes anything: it is a label: what it is worth is what the hold of that sum in a sandbox is worth. -/
noncomputable def Try.pinned : Pinned := { name := "ytgcghcmmcljiiaa", sum := "db934321f5da02f8ca883c096bf1b573d3a927c566dad83ae09f07be859ba6be", checked := Try.checked }
namespace Rows
def none {H : Type} : Left H := { results := [], args := [] }

/-- 'barquelaw01.CodeNums': WHATEVER THE INPUT: true; the input reads as it did. -/
def codeNumsSpec : ChangeSpec := { name := "codeNums", fn := fun _ => fun
  | [d] => { results := [.lit (.bool true)], args := [d] }
  | _ => none }
def codeNumsRow : OpenClaim := { program := "ytgcghcmmcljiiaa", sum := "db934321f5da02f8ca883c096bf1b573d3a927c566dad83ae09f07be859ba6be", func := "barque/barquelaw01.CodeNums", spec := "codeNums", apart := false }
def CodeNumsSaid : Prop := codeNumsRow.holds Try.pinned (OpenSpec.ofChange codeNumsSpec)

/-- ITS FALSE NEIGHBOUR: 'it returns false'. Refute it at one input. -/
def codeNumsWrong : ChangeSpec := { name := "codeNums", fn := fun _ => fun
  | [d] => { results := [.lit (.bool false)], args := [d] }
  | _ => none }
def CodeNumsWrongFalsely : Prop := codeNumsRow.holds Try.pinned (OpenSpec.ofChange codeNumsWrong)

/-- 'barquelaw01.CodeSigns': WHATEVER THE INPUT: true; the input reads as it did. -/
def codeSignsSpec : ChangeSpec := { name := "codeSigns", fn := fun _ => fun
  | [d] => { results := [.lit (.bool true)], args := [d] }
  | _ => none }
def codeSignsRow : OpenClaim := { program := "ytgcghcmmcljiiaa", sum := "db934321f5da02f8ca883c096bf1b573d3a927c566dad83ae09f07be859ba6be", func := "barque/barquelaw01.CodeSigns", spec := "codeSigns", apart := false }
def CodeSignsSaid : Prop := codeSignsRow.holds Try.pinned (OpenSpec.ofChange codeSignsSpec)

/-- ITS FALSE NEIGHBOUR: 'it returns false'. Refute it at one input. -/
def codeSignsWrong : ChangeSpec := { name := "codeSigns", fn := fun _ => fun
  | [d] => { results := [.lit (.bool false)], args := [d] }
  | _ => none }
def CodeSignsWrongFalsely : Prop := codeSignsRow.holds Try.pinned (OpenSpec.ofChange codeSignsWrong)

/-- 'barquelaw01.CodeTexts': WHATEVER THE INPUT: true; the input reads as it did. -/
def codeTextsSpec : ChangeSpec := { name := "codeTexts", fn := fun _ => fun
  | [d1, d2] => { results := [.lit (.bool true)], args := [d1, d2] }
  | _ => none }
def codeTextsRow : OpenClaim := { program := "ytgcghcmmcljiiaa", sum := "db934321f5da02f8ca883c096bf1b573d3a927c566dad83ae09f07be859ba6be", func := "barque/barquelaw01.CodeTexts", spec := "codeTexts", apart := false }
def CodeTextsSaid : Prop := codeTextsRow.holds Try.pinned (OpenSpec.ofChange codeTextsSpec)

/-- ITS FALSE NEIGHBOUR: 'it returns false'. Refute it at one input. -/
def codeTextsWrong : ChangeSpec := { name := "codeTexts", fn := fun _ => fun
  | [d1, d2] => { results := [.lit (.bool false)], args := [d1, d2] }
  | _ => none }
def CodeTextsWrongFalsely : Prop := codeTextsRow.holds Try.pinned (OpenSpec.ofChange codeTextsWrong)

/-- 'barquelaw01.CodeNobody': WHATEVER THE INPUT: true; the input reads as it did. -/
def codeNobodySpec : ChangeSpec := { name := "codeNobody", fn := fun _ => fun
  | [d] => { results := [.lit (.bool true)], args := [d] }
  | _ => none }
def codeNobodyRow : OpenClaim := { program := "ytgcghcmmcljiiaa", sum := "db934321f5da02f8ca883c096bf1b573d3a927c566dad83ae09f07be859ba6be", func := "barque/barquelaw01.CodeNobody", spec := "codeNobody", apart := false }
def CodeNobodySaid : Prop := codeNobodyRow.holds Try.pinned (OpenSpec.ofChange codeNobodySpec)

/-- ITS FALSE NEIGHBOUR: 'it returns false'. Refute it at one input. -/
def codeNobodyWrong : ChangeSpec := { name := "codeNobody", fn := fun _ => fun
  | [d] => { results := [.lit (.bool false)], args := [d] }
  | _ => none }
def CodeNobodyWrongFalsely : Prop := codeNobodyRow.holds Try.pinned (OpenSpec.ofChange codeNobodyWrong)

/-- 'barquelaw01.CodeReads': WHATEVER THE INPUT: true; the input reads as it did. -/
def codeReadsSpec : ChangeSpec := { name := "codeReads", fn := fun _ => fun
  | [d1, d2] => { results := [.lit (.bool true)], args := [d1, d2] }
  | _ => none }
def codeReadsRow : OpenClaim := { program := "ytgcghcmmcljiiaa", sum := "db934321f5da02f8ca883c096bf1b573d3a927c566dad83ae09f07be859ba6be", func := "barque/barquelaw01.CodeReads", spec := "codeReads", apart := false }
def CodeReadsSaid : Prop := codeReadsRow.holds Try.pinned (OpenSpec.ofChange codeReadsSpec)

/-- ITS FALSE NEIGHBOUR: 'it returns false'. Refute it at one input. -/
def codeReadsWrong : ChangeSpec := { name := "codeReads", fn := fun _ => fun
  | [d1, d2] => { results := [.lit (.bool false)], args := [d1, d2] }
  | _ => none }
def CodeReadsWrongFalsely : Prop := codeReadsRow.holds Try.pinned (OpenSpec.ofChange codeReadsWrong)

/-- 'barquelaw01.CodeStops': WHATEVER THE INPUT: true; the input reads as it did. -/
def codeStopsSpec : ChangeSpec := { name := "codeStops", fn := fun _ => fun
  | [d1, d2, d3] => { results := [.lit (.bool true)], args := [d1, d2, d3] }
  | _ => none }
def codeStopsRow : OpenClaim := { program := "ytgcghcmmcljiiaa", sum := "db934321f5da02f8ca883c096bf1b573d3a927c566dad83ae09f07be859ba6be", func := "barque/barquelaw01.CodeStops", spec := "codeStops", apart := false }
def CodeStopsSaid : Prop := codeStopsRow.holds Try.pinned (OpenSpec.ofChange codeStopsSpec)

/-- ITS FALSE NEIGHBOUR: 'it returns false'. Refute it at one input. -/
def codeStopsWrong : ChangeSpec := { name := "codeStops", fn := fun _ => fun
  | [d1, d2, d3] => { results := [.lit (.bool false)], args := [d1, d2, d3] }
  | _ => none }
def CodeStopsWrongFalsely : Prop := codeStopsRow.holds Try.pinned (OpenSpec.ofChange codeStopsWrong)

/-- 'barquelaw01.CodeLists': WHATEVER THE INPUT: true; the input reads as it did. -/
def codeListsSpec : ChangeSpec := { name := "codeLists", fn := fun _ => fun
  | [d1, d2] => { results := [.lit (.bool true)], args := [d1, d2] }
  | _ => none }
def codeListsRow : OpenClaim := { program := "ytgcghcmmcljiiaa", sum := "db934321f5da02f8ca883c096bf1b573d3a927c566dad83ae09f07be859ba6be", func := "barque/barquelaw01.CodeLists", spec := "codeLists", inPlace := ["internal/abi.NoEscape"], apart := false }
def CodeListsSaid : Prop := codeListsRow.holds Try.pinned (OpenSpec.ofChange codeListsSpec)

/-- ITS FALSE NEIGHBOUR: 'it returns false'. Refute it at one input. -/
def codeListsWrong : ChangeSpec := { name := "codeLists", fn := fun _ => fun
  | [d1, d2] => { results := [.lit (.bool false)], args := [d1, d2] }
  | _ => none }
def CodeListsWrongFalsely : Prop := codeListsRow.holds Try.pinned (OpenSpec.ofChange codeListsWrong)

/-- 'barquelaw01.CodeCanon': WHATEVER THE INPUT: true; the input reads as it did. -/
def codeCanonSpec : ChangeSpec := { name := "codeCanon", fn := fun _ => fun
  | [d] => { results := [.lit (.bool true)], args := [d] }
  | _ => none }
def codeCanonRow : OpenClaim := { program := "ytgcghcmmcljiiaa", sum := "db934321f5da02f8ca883c096bf1b573d3a927c566dad83ae09f07be859ba6be", func := "barque/barquelaw01.CodeCanon", spec := "codeCanon", inPlace := ["internal/abi.NoEscape"], apart := false }
def CodeCanonSaid : Prop := codeCanonRow.holds Try.pinned (OpenSpec.ofChange codeCanonSpec)

/-- ITS FALSE NEIGHBOUR: 'it returns false'. Refute it at one input. -/
def codeCanonWrong : ChangeSpec := { name := "codeCanon", fn := fun _ => fun
  | [d] => { results := [.lit (.bool false)], args := [d] }
  | _ => none }
def CodeCanonWrongFalsely : Prop := codeCanonRow.holds Try.pinned (OpenSpec.ofChange codeCanonWrong)

/-- 'barquelaw01.CodeBack': WHATEVER THE INPUT: true; the input reads as it did. -/
def codeBackSpec : ChangeSpec := { name := "codeBack", fn := fun _ => fun
  | [d1, d2, d3, d4] => { results := [.lit (.bool true)], args := [d1, d2, d3, d4] }
  | _ => none }
def codeBackRow : OpenClaim := { program := "ytgcghcmmcljiiaa", sum := "db934321f5da02f8ca883c096bf1b573d3a927c566dad83ae09f07be859ba6be", func := "barque/barquelaw01.CodeBack", spec := "codeBack", inPlace := ["internal/abi.NoEscape"], apart := false }
def CodeBackSaid : Prop := codeBackRow.holds Try.pinned (OpenSpec.ofChange codeBackSpec)

/-- ITS FALSE NEIGHBOUR: 'it returns false'. Refute it at one input. -/
def codeBackWrong : ChangeSpec := { name := "codeBack", fn := fun _ => fun
  | [d1, d2, d3, d4] => { results := [.lit (.bool false)], args := [d1, d2, d3, d4] }
  | _ => none }
def CodeBackWrongFalsely : Prop := codeBackRow.holds Try.pinned (OpenSpec.ofChange codeBackWrong)

/- THE SECOND FORM. 'bulk': how many values and letters a reading holds, each counted each time it is reached (what is shared counts as often as it is met; a slice's spare places count too). A statement '..UptoSaid' is the law's where the arguments, and the package variables that the reading takes, are together of bulk at most 1048576: NARROWER than '..Said'. Prove '..Said' where nothing that the law and all that it calls make is longer than what came in: it says more and counts as full. Else prove '..UptoSaid'. A law counts once. -/
mutual
def uptoBulk {H : Type} : DataW H → Nat
  | .lit (.string bytes) => bytes.length + 1
  | .lit _ => 1
  | .nil => 1
  | .ptr d => uptoBulk d + 1
  | .slice elems spare => uptoBulkAll elems + uptoBulkAll spare + 1
  | .agg parts => uptoBulkAll parts + 1
  | .iface _ d => uptoBulk d + 1
  | .map entries => uptoBulkEntries entries + 1
  | .held _ => 1
def uptoBulkAll {H : Type} : List (DataW H) → Nat
  | [] => 0
  | d :: r => uptoBulk d + uptoBulkAll r
def uptoBulkEntries {H : Type} : List (Lit × DataW H) → Nat
  | [] => 0
  | x :: r => uptoBulkEntry x + uptoBulkEntries r
def uptoBulkEntry {H : Type} : Lit × DataW H → Nat
  | (.string bytes, d) => bytes.length + uptoBulk d + 1
  | (_, d) => uptoBulk d + 1
 end
def uptoSmall : (H : Type) → List (DataW H) → Bool := fun _ ds => decide (uptoBulkAll ds ≤ 1048576)
def OpenSpec.upto (s : _root_.Go.ChangeSpec) : _root_.Go.OpenSpec := { _root_.Go.OpenSpec.ofChange s with cond := some uptoSmall }

/-- 'barquelaw01.CodeNums', WHERE WHAT IT READS IS OF BULK AT MOST 1048576: true; the input reads as it did. -/
def codeNumsUptoRow : OpenClaim := { program := "ytgcghcmmcljiiaa", sum := "db934321f5da02f8ca883c096bf1b573d3a927c566dad83ae09f07be859ba6be", func := "barque/barquelaw01.CodeNums", spec := "codeNums", apart := false, narrowed := true }
def CodeNumsUptoSaid : Prop := codeNumsUptoRow.holds Try.pinned (OpenSpec.upto codeNumsSpec)

/-- 'barquelaw01.CodeSigns', WHERE WHAT IT READS IS OF BULK AT MOST 1048576: true; the input reads as it did. -/
def codeSignsUptoRow : OpenClaim := { program := "ytgcghcmmcljiiaa", sum := "db934321f5da02f8ca883c096bf1b573d3a927c566dad83ae09f07be859ba6be", func := "barque/barquelaw01.CodeSigns", spec := "codeSigns", apart := false, narrowed := true }
def CodeSignsUptoSaid : Prop := codeSignsUptoRow.holds Try.pinned (OpenSpec.upto codeSignsSpec)

/-- 'barquelaw01.CodeTexts', WHERE WHAT IT READS IS OF BULK AT MOST 1048576: true; the input reads as it did. -/
def codeTextsUptoRow : OpenClaim := { program := "ytgcghcmmcljiiaa", sum := "db934321f5da02f8ca883c096bf1b573d3a927c566dad83ae09f07be859ba6be", func := "barque/barquelaw01.CodeTexts", spec := "codeTexts", apart := false, narrowed := true }
def CodeTextsUptoSaid : Prop := codeTextsUptoRow.holds Try.pinned (OpenSpec.upto codeTextsSpec)

/-- 'barquelaw01.CodeNobody', WHERE WHAT IT READS IS OF BULK AT MOST 1048576: true; the input reads as it did. -/
def codeNobodyUptoRow : OpenClaim := { program := "ytgcghcmmcljiiaa", sum := "db934321f5da02f8ca883c096bf1b573d3a927c566dad83ae09f07be859ba6be", func := "barque/barquelaw01.CodeNobody", spec := "codeNobody", apart := false, narrowed := true }
def CodeNobodyUptoSaid : Prop := codeNobodyUptoRow.holds Try.pinned (OpenSpec.upto codeNobodySpec)

/-- 'barquelaw01.CodeReads', WHERE WHAT IT READS IS OF BULK AT MOST 1048576: true; the input reads as it did. -/
def codeReadsUptoRow : OpenClaim := { program := "ytgcghcmmcljiiaa", sum := "db934321f5da02f8ca883c096bf1b573d3a927c566dad83ae09f07be859ba6be", func := "barque/barquelaw01.CodeReads", spec := "codeReads", apart := false, narrowed := true }
def CodeReadsUptoSaid : Prop := codeReadsUptoRow.holds Try.pinned (OpenSpec.upto codeReadsSpec)

/-- 'barquelaw01.CodeStops', WHERE WHAT IT READS IS OF BULK AT MOST 1048576: true; the input reads as it did. -/
def codeStopsUptoRow : OpenClaim := { program := "ytgcghcmmcljiiaa", sum := "db934321f5da02f8ca883c096bf1b573d3a927c566dad83ae09f07be859ba6be", func := "barque/barquelaw01.CodeStops", spec := "codeStops", apart := false, narrowed := true }
def CodeStopsUptoSaid : Prop := codeStopsUptoRow.holds Try.pinned (OpenSpec.upto codeStopsSpec)

/-- 'barquelaw01.CodeLists', WHERE WHAT IT READS IS OF BULK AT MOST 1048576: true; the input reads as it did. -/
def codeListsUptoRow : OpenClaim := { program := "ytgcghcmmcljiiaa", sum := "db934321f5da02f8ca883c096bf1b573d3a927c566dad83ae09f07be859ba6be", func := "barque/barquelaw01.CodeLists", spec := "codeLists", inPlace := ["internal/abi.NoEscape"], apart := false, narrowed := true }
def CodeListsUptoSaid : Prop := codeListsUptoRow.holds Try.pinned (OpenSpec.upto codeListsSpec)

/-- 'barquelaw01.CodeCanon', WHERE WHAT IT READS IS OF BULK AT MOST 1048576: true; the input reads as it did. -/
def codeCanonUptoRow : OpenClaim := { program := "ytgcghcmmcljiiaa", sum := "db934321f5da02f8ca883c096bf1b573d3a927c566dad83ae09f07be859ba6be", func := "barque/barquelaw01.CodeCanon", spec := "codeCanon", inPlace := ["internal/abi.NoEscape"], apart := false, narrowed := true }
def CodeCanonUptoSaid : Prop := codeCanonUptoRow.holds Try.pinned (OpenSpec.upto codeCanonSpec)

/-- 'barquelaw01.CodeBack', WHERE WHAT IT READS IS OF BULK AT MOST 1048576: true; the input reads as it did. -/
def codeBackUptoRow : OpenClaim := { program := "ytgcghcmmcljiiaa", sum := "db934321f5da02f8ca883c096bf1b573d3a927c566dad83ae09f07be859ba6be", func := "barque/barquelaw01.CodeBack", spec := "codeBack", inPlace := ["internal/abi.NoEscape"], apart := false, narrowed := true }
def CodeBackUptoSaid : Prop := codeBackUptoRow.holds Try.pinned (OpenSpec.upto codeBackSpec)

end Rows
end Go.Proofs.Ytgcghcmmcljiiaa
