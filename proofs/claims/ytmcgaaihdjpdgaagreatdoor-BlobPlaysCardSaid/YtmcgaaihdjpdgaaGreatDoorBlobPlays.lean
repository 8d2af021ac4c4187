/- Whatever is put, dropped, asked, saved, forgotten and loaded, what is kept and told is what a plain model has. No condition; the two listed variables of the library (utf8.first, acceptRanges) are not read. -/
import Derived.Test.YtmcgaaihdjpdgaaGreatDoorPlB
import Derived.Test.YtmcgaaihdjpdgaaGreatDoorLiftCard
namespace Go.Proofs.YtmcgaaihdjpdgaaGreatDoor.lawBlobPlays
open Go.ChangeShapes Go.WideShapes Go.ChangeAt Go.RowKit
open Go.ChangeMaps (open_string)

set_option maxRecDepth 100000 in
theorem lifted (os : Os) (started : os.Started) (H : Type) (enc : TypeId × Value → H) :
    ReturnsInHanded {} Tryz.checked os 3 .any (fun w args => (Rows.blobPlaysSpec.pre enc Tryz.prog Tryz.f3 Rows.blobPlaysRow.domain false w args ∧ laidMetH Tryz.prog Rows.blobPlaysRow.laid w) ∧ sizedMet enc Tryz.prog Tryz.f3 (OpenSpec.ofChange Rows.blobPlaysSpec) false w args) (Rows.blobPlaysSpec.post enc Tryz.prog Tryz.f3 false true false false) := by
  refine handed_shaped (C := Tryz.checked) (X := fun w _ => laidMetH Tryz.prog Rows.blobPlaysRow.laid w) own started (by kernel_rfl) Tryz.func3
    (ChangeSpec.witness_shaped (enc := enc) (C := Tryz.checked) (os := os) (X := fun w _ => laidMetH Tryz.prog Rows.blobPlaysRow.laid w) false (World.laidAll Tryz.prog os seatLaid) #[.slice none 0 0] 8 (World.laidAll_os _ _ _)
      (seatShaped os _) (by kernel_rfl) (by kernel_rfl) (by kernel_rfl) (seatLaid_met os _)) ?_
  intro W base args ds gs before hval0 hW hcnd hsz0 hshape _
  have hml := ml_of_shaped hshape
  have hval : ∀ (j : Nat) t v, Tryz.f3.params[j]? = some t → args[j]? = some v → Value.okWide Tryz.prog W .any base t v := hval0
  have hW' := hW
  obtain ⟨p, q, hA0, hV, hbe, hfz, hnd⟩ := hW
  have hA : DataW.TrodAll enc Tryz.prog W 0 (fun _ => true) true Tryz.f3.params.toList args.toList ds p := hA0
  have hlt : ∀ x ∈ p, x.block < W.heap.size := fun x hx => hW'.lt x (by rw [hbe]; simp [hx])
  rw [Tryz.params3] at hA hval
  obtain ⟨rfl, rfl⟩ := trodVars_none hV
  obtain ⟨v0, vs0, d0, ds0, p0, q0, hargs0, rfl, rfl, h0, r0⟩ := trodAll_cons hA
  obtain ⟨rfl, rfl, rfl⟩ := trodAll_nil r0
  obtain rfl : args = #[v0] := by cases args; simp_all
  obtain ⟨A0, c0, l0, rfl, hc0, hb0, ha0, hd0⟩ := open_bops (hval 0 22 v0 rfl rfl) h0
  have z0 : l0.length * 56 ≤ 140737488351232 := reach_slice (j := 0) (t := 22) (e := 28) hsz0 rfl rfl (by kernel_rfl) (by kernel_rfl) hd0
  refine (law_plays A0 c0 l0 W z0 hc0 hb0 ha0 hml).mono fun e W' ⟨he, hw⟩ => ?_
  subst he
  exact ⟨_, rfl, law_post rfl rfl Tryz.underlying4 (by kernel_rfl) (by kernel_rfl) hW' rfl hw⟩

theorem row_holds : Rows.BlobPlaysSaid :=
  OpenClaim.holds_of_wide 3 Tryz.f3 rfl rfl rfl rfl rfl rfl rfl ⟨rfl, rfl, rfl, rfl, rfl⟩ rfl rfl rfl rfl rfl (by kernel_rfl) Tryz.func3 (by kernel_rfl)
    (of_decide_eq_true (by kernel_rfl)) (by unfold Func.isWrapper; first | (rw [if_pos (by decide +kernel)]; kernel_rfl) | (rw [if_neg (by decide +kernel)]; exact ⟨rfl, rfl⟩))
    (fun os started H enc _ => lifted os started H enc)
theorem proved : Rows.BlobPlaysCardSaid :=
  Claim7.holds_tied_plain_at .later [] [.data, .pinned] true Rows.blobPlaysCard.stood.harness false row_holds (fun _ h => by cases h) (by kernel_rfl) (fun _ h => by cases h) blobPlays_row_tie rfl ⟨rfl, rfl⟩ (by kernel_rfl) rfl
    (fun f fn hf hfn => by
      obtain rfl : f = 3 := Option.some.inj ((show Tryz.prog.funcNamed "barque/barquelaw11.BlobPlays" = some 3 by kernel_rfl).symm.trans hf) |>.symm
      obtain rfl : fn = Tryz.f3 := (Option.some.inj (Tryz.func3.symm.trans hfn)).symm
      exact ⟨by kernel_rfl, fun j t ht => by
        rw [Tryz.params3] at ht
        have hm : t ∈ [22] := by simpa using Array.mem_of_getElem? ht
        have hall : ([22].all fun u => !Tryz.prog.wantsStandIn u) = true := by kernel_rfl
        exact (show Tryz.prog.wantsStandIn t = false by simpa using List.all_eq_true.1 hall t hm)⟩)
    (by kernel_rfl)
end Go.Proofs.YtmcgaaihdjpdgaaGreatDoor.lawBlobPlays
