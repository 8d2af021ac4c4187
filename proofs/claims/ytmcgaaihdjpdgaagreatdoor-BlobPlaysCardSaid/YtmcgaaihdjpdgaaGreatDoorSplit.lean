/- strings.Split: the shelf's contract, laid. -/
import Derived.Test.YtmcgaaihdjpdgaaGreatDoorProg
import Derived.Shelf.Lay
import Derived.Shelf.Strings.Split
import Derived.Ground.NamesProg
namespace Go.Proofs.YtmcgaaihdjpdgaaGreatDoor
open Go.Shelf Go.RowKit
shelf_lay Lays.n146 Nm 146 at Tryz as laysSplit
end Go.Proofs.YtmcgaaihdjpdgaaGreatDoor
