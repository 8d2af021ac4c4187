/- The walk through TreeBytes. -/
import Derived.Test.YtjhbmcgaehpadaaDoorTreeBytes3
import Derived.Test.YtjhbmcgaehpadaaDoorLiftItems
namespace Go.Proofs.YtjhbmcgaehpadaaDoor
open Go.RowKit
set_option linter.unusedVariables false

set_option maxHeartbeats 2000000 in
set_option maxRecDepth 100000 in
theorem law_bytes (A : Option Addr) (c : Nat) (l : List ItemD) (w : World)
    (hz : l.length * 48 ≤ 140737488351232) (hcap : l.length ≤ c) (hx : ∀ f ∈ l, IOk f) (ha : Arr w w.heap.size 4 A l.length (icells l)) (hm : Ml w) :
    Calls Tryd.prog 9 #[.slice A l.length c] w fun e w' => e = .returned (.bool true) ∧ Below w.heap.size w w' := by
  have HA := Lib.hid awake_any
  have hsome := some_any A c l.length w (by omega) hcap (arr_some ha)
  rw [← some_len] at hsome
  have HSO := Lib.hid hsome
  have ha' := ha.some_
  have hxx : ∀ f ∈ l.take 100, IOk f := fun f hf => hx f (List.mem_of_mem_take hf)
  have hl : (l.take 100).length ≤ 100 := by rw [List.length_take]; omega
  clear hsome ha hx
  generalize l.take 100 = l' at *
  have hB : Below w.heap.size w w := Below.refl _ _
  have F1 := Lib.hid (fun W (hb : Below w.heap.size w W) => bytes_any A c l' W (by omega) hxx ((ha'.below hb).more hb.size) (hm.on hb))
  have F2 := Lib.hid (fun W (hb : Below w.heap.size w W) => bytes_ref A c l' W (by omega) hxx ((ha'.below hb).more hb.size))
  have F3 := Lib.hid (fun W (hb : Below w.heap.size w W) => right_any A c l' W (by omega) hxx ((ha'.below hb).more hb.size) (hm.on hb))
  have F4 := Lib.hid (fun W (hb : Below w.heap.size w W) => right_ref A c l' W (by omega) hxx ((ha'.below hb).more hb.size))
  generalize bytesS l' = S at *
  generalize rightE l' = E at *
  clear ha' hxx
  go_enter Tryd.func9, Tryd.ntmps9
  go_wp2_with (first
    | (go_at_call 31; (with_reducible refine HSO.out.mono ?_); rintro e w1 ⟨rfl, rfl⟩)
    | (go_at_call 32; (with_reducible refine (F1.out _ hB).mono ?_); rintro e w1 ⟨rfl, hb1⟩; have hB := below_on hB hb1)
    | (go_at_call 33; (with_reducible refine (F2.out _ hB).mono ?_); rintro e w1 ⟨rfl, hb1⟩; have hB := below_on hB hb1)
    | (go_at_call 34; (with_reducible refine (F3.out _ hB).mono ?_); rintro e w1 ⟨rfl, hb1⟩; have hB := below_on hB hb1)
    | (go_at_call 35; (with_reducible refine (F4.out _ hB).mono ?_); rintro e w1 ⟨rfl, hb1⟩; have hB := below_on hB hb1)
    | (go_at_call 16; (with_reducible refine (HA.out _ (hm.on hB)).mono ?_); rintro e w1 ⟨rfl, hb1⟩; have hB := below_on hB hb1))
  go_ret
  exact ⟨rfl, hB⟩
end Go.Proofs.YtjhbmcgaehpadaaDoor
