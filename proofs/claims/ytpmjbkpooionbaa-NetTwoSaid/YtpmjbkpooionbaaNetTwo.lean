/- Law NetTwo: for every two scripts the law returns true. No condition. -/
import Derived.Test.YtpmjbkpooionbaaNetTwoWalk
import Derived.Test.YtpmjbkpooionbaaNetLift
import Derived.Test.YtpmjbkpooionbaaRows
namespace Go.Proofs.Ytpmjbkpooionbaa.lawNetTwo
open Go.ChangeShapes Go.WideShapes Go.ChangeAt Go.RowKit
open Go.ChangeMaps (open_string)

set_option maxRecDepth 100000 in
theorem lifted (os : Os) (started : os.Started) (H : Type) (enc : TypeId × Value → H) :
    ReturnsInHanded {} Try.checked os 5 .any (Rows.netTwoSpec.pre6 enc Try.prog Try.f5 Rows.netTwoRow.domain false) (Rows.netTwoSpec.post enc Try.prog Try.f5 false true false false) := by
  refine returnsInHanded_of_change_sized (C := Try.checked) own started (by kernel_rfl) Try.func5
    (ChangeSpec.witness6 (enc := enc) (C := Try.checked) false ⟨#[], #[.slice none 0 0, .slice none 0 0], []⟩ 8 (by kernel_rfl) (by kernel_rfl) (by kernel_rfl) (by kernel_rfl)) ?_
  intro W base args ds gs before hval0 hW hcnd hsz0 _
  have hval : ∀ (j : Nat) t v, Try.f5.params[j]? = some t → args[j]? = some v → Value.okWide Try.prog W .any base t v := hval0
  have hW' := hW
  obtain ⟨p, q, hA0, hV, hbe, hfz, hnd⟩ := hW
  have hA : DataW.TrodAll enc Try.prog W 0 (fun _ => true) true Try.f5.params.toList args.toList ds p := hA0
  have hlt : ∀ x ∈ p, x.block < W.heap.size := fun x hx => hW'.lt x (by rw [hbe]; simp [hx])
  rw [Try.params5] at hA hval
  obtain ⟨rfl, rfl⟩ := trodVars_none hV
  obtain ⟨v0, vs0, d0, ds0, p0, q0, hargs0, rfl, rfl, h0, r0⟩ := trodAll_cons hA
  obtain ⟨v1, vs1, d1, ds1, p1, q1, hargs1, rfl, rfl, h1, r1⟩ := trodAll_cons r0
  obtain ⟨rfl, rfl, rfl⟩ := trodAll_nil r1
  subst hargs1
  obtain rfl : args = #[v0, v1] := by cases args; simp_all
  obtain ⟨A0, c0, l0, rfl, hb0, ha0, hd0⟩ := open_ops (hval 0 36 v0 rfl rfl) h0
  have z0 : l0.length * 48 ≤ 140737488351232 := reach_slice (j := 0) (t := 36) (e := 40) hsz0 rfl rfl (by kernel_rfl) (by kernel_rfl) hd0
  obtain ⟨A1, c1, l1, rfl, hb1, ha1, hd1⟩ := open_ops (hval 1 36 v1 rfl rfl) h1
  have z1 : l1.length * 48 ≤ 140737488351232 := reach_slice (j := 1) (t := 36) (e := 40) hsz0 rfl rfl (by kernel_rfl) (by kernel_rfl) hd1
  refine (law_two A0 c0 l0 A1 c1 l1 W z0 hb0 ha0 z1 hb1 ha1).mono fun e W' ⟨he, hw⟩ => ?_
  subst he
  exact ⟨_, rfl, law_post rfl rfl Try.underlying4 (by kernel_rfl) (by kernel_rfl) hW' rfl hw⟩

theorem proved : Rows.NetTwoSaid :=
  OpenClaim.holds_of_wide 5 Try.f5 rfl rfl rfl rfl rfl rfl rfl ⟨rfl, rfl, rfl, rfl, rfl⟩ rfl rfl rfl rfl rfl (by kernel_rfl) Try.func5 (by kernel_rfl)
    (of_decide_eq_true (by kernel_rfl)) (by unfold Func.isWrapper; first | (rw [if_pos (by decide +kernel)]; kernel_rfl) | (rw [if_neg (by decide +kernel)]; exact ⟨rfl, rfl⟩))
    (fun os started H enc _ => lifted os started H enc)
end Go.Proofs.Ytpmjbkpooionbaa.lawNetTwo
