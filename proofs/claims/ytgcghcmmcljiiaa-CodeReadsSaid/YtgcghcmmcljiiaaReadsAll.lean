/- The walk of the law CodeReads. -/
import Derived.Test.YtgcghcmmcljiiaaReadsW2
import Derived.Test.YtgcghcmmcljiiaaReadsW3
namespace Go.Proofs.Ytgcghcmmcljiiaa
open Go.RowKit
theorem law_reads (s : ByteArray) (A : Option Addr) (c : Nat) (l : List (Int × Int × Int)) (w : World) (_hs : s.size ≤ 140737488351232) (hl : l.length * 24 ≤ 140737488351232) (hlb : ∀ x ∈ l, -9223372036854775808 ≤ x.2.1 ∧ x.2.1 ≤ 9223372036854775807) (harr : Arr w w.heap.size 3 A l.length (opCells l)) :
    Calls Try.prog 7 #[.string s, .slice A l.length c] w fun e w' => e = .returned (.bool true) ∧ Below w.heap.size w w' := by
  by_cases h : 4000 < s.size
  · exact law_reads2 s _ A c l w (by rw [ByteArray.size_extract]; omega) h rfl hl hlb harr
  · exact law_reads1 s A c l w (by omega) hl hlb harr
end Go.Proofs.Ytgcghcmmcljiiaa
