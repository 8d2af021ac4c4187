/- The walk through ImageOfs. -/
import Derived.Test.YtlfennooocmclaaDoorIm4
namespace Go.Proofs.YtlfennooocmclaaDoor
open Go.RowKit
set_option linter.unusedVariables false

theorem ofN_size (l : List FileD) : ofN l = ((ofS l).size : Int) := by
  unfold ofN ofS
  by_cases h : ofE l = 0
  · rw [if_pos h, if_pos h, ba_size]
  · rw [if_neg h, if_neg h]; rfl
theorem ofE_dec (E : Int) : (E == E) = true := by simp
set_option maxHeartbeats 2000000 in
set_option maxRecDepth 100000 in
theorem law_ofs (A : Option Addr) (c : Nat) (l : List FileD) (w : World)
    (hz : l.length * 40 ≤ 140737488351232) (hcap : l.length ≤ c) (hxf : ∀ f ∈ l, FFit f) (ha : Arr w w.heap.size 3 A l.length (fcells l)) (hm : Ml w) :
    Calls Tryd.prog 3 #[.slice A l.length c] w fun e w' => e = .returned (.bool true) ∧ Below w.heap.size w w' := by
  have hx : ∀ f ∈ l, FOk f := fun f hf => (hxf f hf).1
  clear hxf
  have HA := Lib.hid awakeI_any
  have hfew := fewI_any A c l w (by omega) hx ha
  have hsz := ofN_size (fewF l)
  obtain ⟨h60, hxx⟩ := few_ok 60 0 l hx
  have hl' : (fewF l).length ≤ 60 := h60
  have hxx' : ∀ f ∈ fewF l, FOk f := hxx
  have F1 := Lib.hid (fun A' c' W (ha' : Arr W W.heap.size 3 A' (fewF l).length (fcells (fewF l))) hm' => of_any A' c' (fewF l) W (by omega) hxx' ha' hm')
  have F2 := Lib.hid (fun A' c' W (ha' : Arr W W.heap.size 3 A' (fewF l).length (fcells (fewF l))) => of_ref A' c' (fewF l) W (by omega) hxx' ha')
  have F3 := Lib.hid (fun A' c' W (ha' : Arr W W.heap.size 3 A' (fewF l).length (fcells (fewF l))) hm' => size_any A' c' (fewF l) W (by omega) hxx' ha' hm')
  unfold LsOut at hfew
  unfold OfIs at F1 F2
  unfold SzIs at F3
  rw [hsz] at F3
  clear hsz h60 hxx hxx' ha hx
  generalize fewF l = l' at *
  generalize ofS l' = S at *
  generalize ofE l' = E at *
  have HF := Lib.hid hfew
  clear hfew
  have hB : Below w.heap.size w w := Below.refl _ _
  go_enter Tryd.func3, Tryd.ntmps3
  go_wp2_with (first
    | (go_at_call 11; (with_reducible refine HF.out.mono ?_); rintro e w1 ⟨A', c', rfl, ha1, hb1⟩; have HA1 := Lib.hid ha1; clear ha1; have hB := below_on hB hb1; have hBB : Below w1.heap.size w1 w1 := Below.refl _ _)
    | (go_at_call 12; (with_reducible refine (F1.out _ _ _ ((HA1.out.below hBB).more hBB.size) (hm.on hB)).mono ?_); rintro e w2 ⟨rfl, hb2⟩; have hB := below_on hB hb2; have hBB := below_on hBB hb2)
    | (go_at_call 13; (with_reducible refine (F2.out _ _ _ ((HA1.out.below hBB).more hBB.size)).mono ?_); rintro e w3 ⟨rfl, hb3⟩; have hB := below_on hB hb3; have hBB := below_on hBB hb3)
    | (go_at_call 14; (with_reducible refine (F3.out _ _ _ ((HA1.out.below hBB).more hBB.size) (hm.on hB)).mono ?_); rintro e w4 ⟨rfl, hb4⟩; have hB := below_on hB hb4; have hBB := below_on hBB hb4)
    | (go_at_call 15; (with_reducible refine (HA.out _ (hm.on hB)).mono ?_); rintro e w5 ⟨rfl, hb5⟩; have hB := below_on hB hb5))
  go_ret
  exact ⟨rfl, hB⟩
end Go.Proofs.YtlfennooocmclaaDoor
