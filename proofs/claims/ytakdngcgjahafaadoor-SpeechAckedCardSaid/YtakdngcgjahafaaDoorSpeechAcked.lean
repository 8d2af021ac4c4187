/- Law SpeechAcked: for every list of events, files and time the law returns true. No condition; the two listed variables of the library (utf8.first, acceptRanges) are not read. -/
import Derived.Test.YtakdngcgjahafaaDoorSp42
import Derived.Test.YtakdngcgjahafaaDoorLiftCard
namespace Go.Proofs.YtakdngcgjahafaaDoor.lawSpeechAcked
open Go.ChangeShapes Go.WideShapes Go.ChangeAt Go.RowKit
open Go.ChangeMaps (open_string)

set_option maxRecDepth 100000 in
theorem lifted (os : Os) (started : os.Started) (H : Type) (enc : TypeId × Value → H) :
    ReturnsInHanded {} Tryd.checked os 9 .any (fun w args => (Rows.speechAckedSpec.pre enc Tryd.prog Tryd.f9 Rows.speechAckedRow.domain false w args ∧ laidMetH Tryd.prog Rows.speechAckedRow.laid w) ∧ sizedMet enc Tryd.prog Tryd.f9 (OpenSpec.ofChange Rows.speechAckedSpec) false w args) (Rows.speechAckedSpec.post enc Tryd.prog Tryd.f9 false true false false) := by
  refine handed_shaped (C := Tryd.checked) (X := fun w _ => laidMetH Tryd.prog Rows.speechAckedRow.laid w) own started (by kernel_rfl) Tryd.func9
    (ChangeSpec.witness_shaped (enc := enc) (C := Tryd.checked) (os := os) (X := fun w _ => laidMetH Tryd.prog Rows.speechAckedRow.laid w) false (World.laidAll Tryd.prog os seatLaid) #[.slice none 0 0, .slice none 0 0, .int .i64 0] 8 (World.laidAll_os _ _ _)
      (seatShaped os _) (by kernel_rfl) (by kernel_rfl) (by kernel_rfl) (seatLaid_met os _)) ?_
  intro W base args ds gs before hval0 hW hcnd hsz0 hshape _
  have hml := ml_of_shaped hshape
  have hval : ∀ (j : Nat) t v, Tryd.f9.params[j]? = some t → args[j]? = some v → Value.okWide Tryd.prog W .any base t v := hval0
  have hW' := hW
  obtain ⟨p, q, hA0, hV, hbe, hfz, hnd⟩ := hW
  have hA : DataW.TrodAll enc Tryd.prog W 0 (fun _ => true) true Tryd.f9.params.toList args.toList ds p := hA0
  have hlt : ∀ x ∈ p, x.block < W.heap.size := fun x hx => hW'.lt x (by rw [hbe]; simp [hx])
  rw [Tryd.params9] at hA hval
  obtain ⟨rfl, rfl⟩ := trodVars_none hV
  obtain ⟨v0, vs0, d0, ds0, p0, q0, hargs0, rfl, rfl, h0, r0⟩ := trodAll_cons hA
  obtain ⟨v1, vs1, d1, ds1, p1, q1, hargs1, rfl, rfl, h1, r1⟩ := trodAll_cons r0
  obtain ⟨v2, vs2, d2, ds2, p2, q2, hargs2, rfl, rfl, h2, r2⟩ := trodAll_cons r1
  obtain ⟨rfl, rfl, rfl⟩ := trodAll_nil r2
  subst hargs1
  subst hargs2
  obtain rfl : args = #[v0, v1, v2] := by cases args; simp_all
  obtain ⟨A0, c0, l0, rfl, hc0, hb0, ha0, hd0⟩ := open_events (hval 0 43 v0 rfl rfl) h0
  have z0 : l0.length * 128 ≤ 140737488351232 := reach_slice (j := 0) (t := 43) (e := 54) hsz0 rfl rfl (by kernel_rfl) (by kernel_rfl) hd0
  obtain ⟨A1, c1, l1, rfl, hc1, hb1, ha1, hd1⟩ := open_files (hval 1 28 v1 rfl rfl) h1
  have z1 : l1.length * 40 ≤ 140737488351232 := reach_slice (j := 1) (t := 28) (e := 69) hsz0 rfl rfl (by kernel_rfl) (by kernel_rfl) hd1
  obtain ⟨a2, rfl, rfl, rfl, w2⟩ := open_int Tryd.underlying3 (hval 2 3 v2 rfl rfl) h2
  refine (law_acked A0 c0 l0 A1 c1 l1 a2 W (by omega) ha0 hb0 z1 hc1 hb1 ha1 (int_bounds w2).1 (int_bounds w2).2 hml).mono fun e W' ⟨he, hw⟩ => ?_
  subst he
  exact ⟨_, rfl, law_post rfl rfl Tryd.underlying4 (by kernel_rfl) (by kernel_rfl) hW' rfl hw⟩

theorem row_holds : Rows.SpeechAckedSaid :=
  OpenClaim.holds_of_wide 9 Tryd.f9 rfl rfl rfl rfl rfl rfl rfl ⟨rfl, rfl, rfl, rfl, rfl⟩ rfl rfl rfl rfl rfl (by kernel_rfl) Tryd.func9 (by kernel_rfl)
    (of_decide_eq_true (by kernel_rfl)) (by unfold Func.isWrapper; first | (rw [if_pos (by decide +kernel)]; kernel_rfl) | (rw [if_neg (by decide +kernel)]; exact ⟨rfl, rfl⟩))
    (fun os started H enc _ => lifted os started H enc)
theorem proved : Rows.SpeechAckedCardSaid :=
  Claim7.holds_tied_plain_at .later [] [.data, .pinned] true Rows.speechAckedCard.stood.harness false row_holds (fun _ h => by cases h) (by kernel_rfl) (fun _ h => by cases h) speechAcked_row_tie rfl ⟨rfl, rfl⟩ (by kernel_rfl) rfl
    (fun f fn hf hfn => by
      obtain rfl : f = 9 := Option.some.inj ((show Tryd.prog.funcNamed "barque/barquelaw22.SpeechAcked" = some 9 by kernel_rfl).symm.trans hf) |>.symm
      obtain rfl : fn = Tryd.f9 := (Option.some.inj (Tryd.func9.symm.trans hfn)).symm
      exact ⟨by kernel_rfl, fun j t ht => by
        rw [Tryd.params9] at ht
        have hm : t ∈ [43, 28, 3] := by simpa using Array.mem_of_getElem? ht
        have hall : ([43, 28, 3].all fun u => !Tryd.prog.wantsStandIn u) = true := by kernel_rfl
        exact (show Tryd.prog.wantsStandIn t = false by simpa using List.all_eq_true.1 hall t hm)⟩)
    (by kernel_rfl)
end Go.Proofs.YtakdngcgjahafaaDoor.lawSpeechAcked
