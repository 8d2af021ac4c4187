/- strings.Split: the shelf's contract, laid. -/
import Derived.Test.YtmcgaaihdjpdgaaDoorProg
import Derived.Shelf.Lay
import Derived.Shelf.Strings.Split
import Derived.Ground.NamesProg
namespace Go.Proofs.YtmcgaaihdjpdgaaDoor
open Go.Shelf Go.RowKit
shelf_lay Lays.n146 Nm 146 at Tryd as laysSplit
end Go.Proofs.YtmcgaaihdjpdgaaDoor
