/- Law TreeSorts: for every list of files the law returns true. No condition; the two listed variables of the library (utf8.first, acceptRanges) are not read. -/
import Derived.Test.YtjhbmcgaehpadaaDoorTreeSortsW
import Derived.Test.YtjhbmcgaehpadaaDoorLiftCard
namespace Go.Proofs.YtjhbmcgaehpadaaDoor.lawTreeSorts
open Go.ChangeShapes Go.WideShapes Go.ChangeAt Go.RowKit
open Go.ChangeMaps (open_string)

set_option maxRecDepth 100000 in
theorem lifted (os : Os) (started : os.Started) (H : Type) (enc : TypeId × Value → H) :
    ReturnsInHanded {} Tryd.checked os 12 .any (fun w args => (Rows.treeSortsSpec.pre enc Tryd.prog Tryd.f12 Rows.treeSortsRow.domain false w args ∧ laidMetH Tryd.prog Rows.treeSortsRow.laid w) ∧ sizedMet enc Tryd.prog Tryd.f12 (OpenSpec.ofChange Rows.treeSortsSpec) false w args) (Rows.treeSortsSpec.post enc Tryd.prog Tryd.f12 false true false false) := by
  refine handed_shaped (C := Tryd.checked) (X := fun w _ => laidMetH Tryd.prog Rows.treeSortsRow.laid w) own started (by kernel_rfl) Tryd.func12
    (ChangeSpec.witness_shaped (enc := enc) (C := Tryd.checked) (os := os) (X := fun w _ => laidMetH Tryd.prog Rows.treeSortsRow.laid w) false (World.laidAll Tryd.prog os seatLaid) #[.slice none 0 0] 8 (World.laidAll_os _ _ _)
      (seatShaped os _) (by kernel_rfl) (by kernel_rfl) (by kernel_rfl) (seatLaid_met os _)) ?_
  intro W base args ds gs before hval0 hW hcnd hsz0 hshape _
  have hml := ml_of_shaped hshape
  have hval : ∀ (j : Nat) t v, Tryd.f12.params[j]? = some t → args[j]? = some v → Value.okWide Tryd.prog W .any base t v := hval0
  have hW' := hW
  obtain ⟨p, q, hA0, hV, hbe, hfz, hnd⟩ := hW
  have hA : DataW.TrodAll enc Tryd.prog W 0 (fun _ => true) true Tryd.f12.params.toList args.toList ds p := hA0
  have hlt : ∀ x ∈ p, x.block < W.heap.size := fun x hx => hW'.lt x (by rw [hbe]; simp [hx])
  rw [Tryd.params12] at hA hval
  obtain ⟨rfl, rfl⟩ := trodVars_none hV
  obtain ⟨v0, vs0, d0, ds0, p0, q0, hargs0, rfl, rfl, h0, r0⟩ := trodAll_cons hA
  obtain ⟨rfl, rfl, rfl⟩ := trodAll_nil r0
  obtain rfl : args = #[v0] := by cases args; simp_all
  obtain ⟨A0, c0, l0, rfl, hc0, hb0, ha0, hd0⟩ := open_files (hval 0 29 v0 rfl rfl) h0
  have z0 : l0.length * 40 ≤ 140737488351232 := reach_slice (j := 0) (t := 29) (e := 58) hsz0 rfl rfl (by kernel_rfl) (by kernel_rfl) hd0
  refine (law_sorts A0 c0 l0 W z0 hc0 hb0 ha0 hml).mono fun e W' ⟨he, hw⟩ => ?_
  subst he
  exact ⟨_, rfl, law_post rfl rfl Tryd.underlying4 (by kernel_rfl) (by kernel_rfl) hW' rfl hw⟩

theorem row_holds : Rows.TreeSortsSaid :=
  OpenClaim.holds_of_wide 12 Tryd.f12 rfl rfl rfl rfl rfl rfl rfl ⟨rfl, rfl, rfl, rfl, rfl⟩ rfl rfl rfl rfl rfl (by kernel_rfl) Tryd.func12 (by kernel_rfl)
    (of_decide_eq_true (by kernel_rfl)) (by unfold Func.isWrapper; first | (rw [if_pos (by decide +kernel)]; kernel_rfl) | (rw [if_neg (by decide +kernel)]; exact ⟨rfl, rfl⟩))
    (fun os started H enc _ => lifted os started H enc)
theorem proved : Rows.TreeSortsCardSaid :=
  Claim7.holds_tied_plain_at .later [] [.data, .pinned] true Rows.treeSortsCard.stood.harness false row_holds (fun _ h => by cases h) (by kernel_rfl) (fun _ h => by cases h) treeSorts_row_tie rfl ⟨rfl, rfl⟩ (by kernel_rfl) rfl
    (fun f fn hf hfn => by
      obtain rfl : f = 12 := Option.some.inj ((show Tryd.prog.funcNamed "barque/barquelaw09.TreeSorts" = some 12 by kernel_rfl).symm.trans hf) |>.symm
      obtain rfl : fn = Tryd.f12 := (Option.some.inj (Tryd.func12.symm.trans hfn)).symm
      exact ⟨by kernel_rfl, fun j t ht => by
        rw [Tryd.params12] at ht
        have hm : t ∈ [29] := by simpa using Array.mem_of_getElem? ht
        have hall : ([29].all fun u => !Tryd.prog.wantsStandIn u) = true := by kernel_rfl
        exact (show Tryd.prog.wantsStandIn t = false by simpa using List.all_eq_true.1 hall t hm)⟩)
    (by kernel_rfl)
end Go.Proofs.YtjhbmcgaehpadaaDoor.lawTreeSorts
