/- The walk through TreePaths. -/
import Derived.Test.YtjhbmcgaehpadaaDoorTreeRef1
namespace Go.Proofs.YtjhbmcgaehpadaaDoor
open Go.RowKit
set_option linter.unusedVariables false

set_option maxHeartbeats 1000000 in
set_option maxRecDepth 100000 in
theorem law_paths (s : ByteArray) (w : World) (hs : s.size ≤ 9223372036854775807) (hm : Ml w) :
    Calls Tryd.prog 3 #[.string s] w fun e w' => e = .returned (.bool true) ∧ Below w.heap.size w w' := by
  have HA := Lib.hid awake_any
  have HP := Lib.hid (fun W h => path_any s W hs h)
  have HQ := Lib.hid (fun W => path_ref s W hs)
  generalize pathE s.data.toList = E at *
  have hB : Below w.heap.size w w := Below.refl _ _
  go_enter Tryd.func3, Tryd.ntmps3
  go_wp2_with (first
    | (go_at_call 14; with_reducible refine (HP.out _ hm).mono ?_; rintro e w1 ⟨rfl, hb1⟩; have hB := below_on hB hb1)
    | (go_at_call 15; with_reducible refine (HQ.out _).mono ?_; rintro e w1 ⟨rfl, hb1⟩; have hB := below_on hB hb1)
    | (go_at_call 16; with_reducible refine (HA.out _ (hm.on hB)).mono ?_; rintro e w1 ⟨rfl, hb1⟩; have hB := below_on hB hb1))
  go_ret
  exact ⟨rfl, hB⟩
end Go.Proofs.YtjhbmcgaehpadaaDoor
