/- The walk through SpeechHolds. -/
import Derived.Test.YtakdngcgjahafaaDoorSp34
import Derived.Test.YtakdngcgjahafaaDoorSp26
import Derived.Test.YtakdngcgjahafaaDoorSpG
namespace Go.Proofs.YtakdngcgjahafaaDoor
open Go.RowKit
set_option linter.unusedVariables false

set_option maxHeartbeats 8000000 in
set_option maxRecDepth 100000 in
theorem law_holds (A : Option Addr) (c : Nat) (l0 : List EvD) (SA : Option Addr) (SC : Nat) (s : List Int) (w : World) (hz : l0.length ≤ 9223372036854775807) (ha : Arr w w.heap.size 10 A l0.length (ecells l0)) (hi : ∀ e ∈ l0, EvIn w e)
    (zs : s.length * 8 ≤ 140737488351232) (hc1 : s.length ≤ SC) (hb1 : ∀ x ∈ s, -9223372036854775808 ≤ x ∧ x ≤ 9223372036854775807) (hsa : Arr w w.heap.size 1 SA s.length (s.map (Value.int .i64))) (hm : Ml w) :
    Calls Tryd.prog 8 #[.slice A l0.length c, .slice SA s.length SC] w fun e w' => e = .returned (.bool true) ∧ Below w.heap.size w w' := by
  have AW := Lib.hid (fun X (h : Below w.heap.size w X) => awake22 X (hm.on h))
  have SH0 := short_any A c l0 12 w hz (by omega) ha hi
  rw [show ((12 : Nat) : Int) = 12 from rfl] at SH0
  have SH := Lib.hid SH0
  clear SH0
  unfold ShortOut at SH
  have HM := Lib.hid hm
  have HS := Lib.hid hsa
  generalize l0.length = n0 at *
  clear ha hi hm hz hsa hb1 hc1
  go_enter Tryd.func8, Tryd.ntmps8
  go_wp2_with (go_at_call 19; (with_reducible refine (SH.out).mono ?_); rintro x w1 ⟨V, l, rfl, hg, hl8, hb1⟩; have HGW := Lib.hid hg; have HB1 := Lib.hid hb1; clear hg hb1)
  have hh := HGW.out.hist
  have hE : ∀ e ∈ l, EFit e := fun e he => (HGW.out.fit e he).1
  obtain ⟨LA, LC, rfl, _, hla, _⟩ := own_arr hh.row
  have HA1 := Lib.hid (fun X (h : Below w1.heap.size w1 X) => holds_any X (HM.out.on (HB1.out.trans (h.mono HB1.out.size))) (hh.below h) hE (by omega) SA SC s (by omega) ((HS.out.below (HB1.out.trans (h.mono HB1.out.size))).more (HB1.out.trans (h.mono HB1.out.size)).size))
  have HR1 := Lib.hid (fun X (h : Below w1.heap.size w1 X) => holds_ref X (HM.out.on (HB1.out.trans (h.mono HB1.out.size))) (hh.below h) hE (by omega) SA SC s (by omega) ((HS.out.below (HB1.out.trans (h.mono HB1.out.size))).more (HB1.out.trans (h.mono HB1.out.size)).size))
  have RG := Lib.hid (fun X (h : Below w1.heap.size w1 X) => evs_right LA LC l X (by omega) ((hla.below h).more h.size))
  have RR := Lib.hid (fun X (h : Below w1.heap.size w1 X) => evs_right_ref LA LC l X (by omega) ((hla.below h).more h.size))
  generalize holdsP l s = R at *
  generalize rightP l = Q at *
  clear hh hla hE
  cases R <;> cases Q
  all_goals
    go_wp2_with (first
      | (go_at_call 27; (with_reducible refine (HA1.out _ (Below.refl _ _)).mono ?_); rintro x w2 ⟨rfl, hb2⟩)
      | (go_at_call 22; (with_reducible refine (HR1.out _ hb2).mono ?_); rintro x w3 ⟨rfl, hb3⟩; have hb3' := below_on hb2 hb3)
      | (go_at_call 28; (with_reducible refine (RG.out _ hb3').mono ?_); rintro x w4 ⟨rfl, hb4⟩; have hb4' := below_on hb3' hb4)
      | (go_at_call 21; (with_reducible refine (RR.out _ hb4').mono ?_); rintro x w5 ⟨rfl, hb5⟩; have hBW := HB1.out.trans ((below_on hb4' hb5).mono HB1.out.size))
      | (go_at_call 18; (with_reducible refine (AW.out _ hBW).mono ?_); rintro x w9 ⟨rfl, hb9⟩; have hB9 := below_on hBW hb9)
      | (fail))
    go_ret
    exact ⟨rfl, hB9⟩
end Go.Proofs.YtakdngcgjahafaaDoor
