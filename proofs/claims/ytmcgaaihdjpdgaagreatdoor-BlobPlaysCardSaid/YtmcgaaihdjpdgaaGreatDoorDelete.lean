/- slices.Delete of a list of texts: the shelf's contract, laid. -/
import Derived.Test.YtmcgaaihdjpdgaaGreatDoorProg
import Derived.Shelf.SlicesE.Delete
import Derived.Ground.SlgnProg
namespace Go.Proofs.YtmcgaaihdjpdgaaGreatDoor
open Go.Shelf Go.RowKit
shelf_lay_g SlLaysE.n45 Slgn 45 at Tryz 57 as delStr
end Go.Proofs.YtmcgaaihdjpdgaaGreatDoor
