/- Law CodeBack: for every number, text, list of numbers and list of texts the law returns true. No condition. -/
import Derived.Test.YtgcghcmmcljiiaaBackWalk
import Derived.Test.YtgcghcmmcljiiaaLift
import Derived.Test.YtgcghcmmcljiiaaRows
namespace Go.Proofs.Ytgcghcmmcljiiaa.lawCodeBack
open Go.ChangeShapes Go.WideShapes Go.ChangeAt Go.RowKit
open Go.ChangeMaps (open_string)

set_option maxRecDepth 100000 in
theorem lifted (os : Os) (started : os.Started) (H : Type) (enc : TypeId × Value → H) :
    ReturnsInHanded {} Try.checked os 11 .any (Rows.codeBackSpec.pre6 enc Try.prog Try.f11 Rows.codeBackRow.domain false) (Rows.codeBackSpec.post enc Try.prog Try.f11 false true false false) := by
  refine returnsInHanded_of_change_sized (C := Try.checked) own started (by kernel_rfl) Try.func11
    (ChangeSpec.witness6 (enc := enc) (C := Try.checked) false ⟨#[], #[.int .i64 0, .string .empty, .slice none 0 0, .slice none 0 0], []⟩ 8 (by kernel_rfl) (by kernel_rfl) (by kernel_rfl) (by kernel_rfl)) ?_
  intro W base args ds gs before hval0 hW hcnd hsz0 _
  have hval : ∀ (j : Nat) t v, Try.f11.params[j]? = some t → args[j]? = some v → Value.okWide Try.prog W .any base t v := hval0
  have hW' := hW
  obtain ⟨p, q, hA0, hV, hbe, hfz, hnd⟩ := hW
  have hA : DataW.TrodAll enc Try.prog W 0 (fun _ => true) true Try.f11.params.toList args.toList ds p := hA0
  have hlt : ∀ x ∈ p, x.block < W.heap.size := fun x hx => hW'.lt x (by rw [hbe]; simp [hx])
  rw [Try.params11] at hA hval
  obtain ⟨rfl, rfl⟩ := trodVars_none hV
  obtain ⟨v0, vs0, d0, ds0, p0, q0, hargs0, rfl, rfl, h0, r0⟩ := trodAll_cons hA
  obtain ⟨v1, vs1, d1, ds1, p1, q1, hargs1, rfl, rfl, h1, r1⟩ := trodAll_cons r0
  obtain ⟨v2, vs2, d2, ds2, p2, q2, hargs2, rfl, rfl, h2, r2⟩ := trodAll_cons r1
  obtain ⟨v3, vs3, d3, ds3, p3, q3, hargs3, rfl, rfl, h3, r3⟩ := trodAll_cons r2
  obtain ⟨rfl, rfl, rfl⟩ := trodAll_nil r3
  subst hargs1
  subst hargs2
  subst hargs3
  obtain rfl : args = #[v0, v1, v2, v3] := by cases args; simp_all
  obtain ⟨a0, rfl, rfl, rfl, w0⟩ := open_int Try.underlying3 (hval 0 3 v0 rfl rfl) h0
  obtain ⟨a1, rfl, rfl, rfl, w1⟩ := open_string Try.underlying9 (hval 1 9 v1 rfl rfl) h1
  have z1 : a1.size ≤ 140737488351232 := by rw [ba_size]; exact sized_string (j := 1) (t := 9) hsz0 rfl rfl
  obtain ⟨A2, c2, l2, rfl, hc2, hb2, ha2, hd2⟩ := open_ints' Try.underlying34 Try.underlying3 (by kernel_rfl) (hval 2 34 v2 rfl rfl) h2
  have z2 : l2.length * 8 ≤ 140737488351232 := reach_slice (j := 2) (t := 34) (e := 3) hsz0 rfl rfl (by kernel_rfl) (by kernel_rfl) (by rcases hd2 with h | h; exact .inl (by rw [h]; rfl); exact .inr h)
  obtain ⟨A3, c3, l3, rfl, hc3, hb3, ha3, hd3⟩ := open_strs' Try.underlying45 Try.underlying9 (by kernel_rfl) (hval 3 45 v3 rfl rfl) h3
  have z3 : l3.length * 16 ≤ 140737488351232 := reach_slice (j := 3) (t := 45) (e := 9) hsz0 rfl rfl (by kernel_rfl) (by kernel_rfl) (by rcases hd3 with h | h; exact .inl (by rw [h]; rfl); exact .inr h)
  refine (law_back a0 a1 A2 c2 l2 A3 c3 l3 W (int_bounds w0).1 (int_bounds w0).2 z1 z2 hb2 ha2 z3 hb3 ha3).mono fun e W' ⟨he, hw⟩ => ?_
  subst he
  exact ⟨_, rfl, law_post rfl rfl Try.underlying4 (by kernel_rfl) (by kernel_rfl) hW' rfl hw⟩

theorem proved : Rows.CodeBackSaid :=
  OpenClaim.holds_of_wide 11 Try.f11 rfl rfl rfl rfl rfl rfl rfl ⟨rfl, rfl, rfl, rfl, rfl⟩ rfl rfl rfl rfl rfl (by kernel_rfl) Try.func11 (by kernel_rfl)
    (of_decide_eq_true (by kernel_rfl)) (by unfold Func.isWrapper; first | (rw [if_pos (by decide +kernel)]; kernel_rfl) | (rw [if_neg (by decide +kernel)]; exact ⟨rfl, rfl⟩))
    (fun os started H enc _ => lifted os started H enc)
end Go.Proofs.Ytgcghcmmcljiiaa.lawCodeBack
