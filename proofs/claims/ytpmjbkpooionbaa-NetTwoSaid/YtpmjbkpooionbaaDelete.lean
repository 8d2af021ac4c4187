/- slices.Delete of a list of texts: the shelf's contract, laid. -/
import Derived.Test.YtpmjbkpooionbaaProg
import Derived.Shelf.SlicesE.Delete
import Derived.Ground.SlgnProg
namespace Go.Proofs.Ytpmjbkpooionbaa
open Go.Shelf Go.RowKit
shelf_lay_g SlLaysE.n45 Slgn 45 at Try 22 as delStr
end Go.Proofs.Ytpmjbkpooionbaa
