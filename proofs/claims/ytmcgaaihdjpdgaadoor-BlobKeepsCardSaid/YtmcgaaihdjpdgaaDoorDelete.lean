/- slices.Delete of a list of texts: the shelf's contract, laid. -/
import Derived.Test.YtmcgaaihdjpdgaaDoorProg
import Derived.Shelf.SlicesE.Delete
import Derived.Ground.SlgnProg
namespace Go.Proofs.YtmcgaaihdjpdgaaDoor
open Go.Shelf Go.RowKit
shelf_lay_g SlLaysE.n45 Slgn 45 at Tryd 47 as delStr
end Go.Proofs.YtmcgaaihdjpdgaaDoor
