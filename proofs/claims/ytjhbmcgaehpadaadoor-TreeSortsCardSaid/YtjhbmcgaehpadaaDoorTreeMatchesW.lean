/- The walk through TreeMatches. -/
import Derived.Test.YtjhbmcgaehpadaaDoorTreeRef6
namespace Go.Proofs.YtjhbmcgaehpadaaDoor
open Go.RowKit
set_option linter.unusedVariables false

set_option maxHeartbeats 1000000 in
set_option maxRecDepth 100000 in
theorem match_ref (p s : ByteArray) (w : World) (hp : p.size ≤ 9223372036854775807) (hs : s.size ≤ 9223372036854775807) :
    Calls Tryd.prog 24 #[.string p, .string s] w fun e w' => e = .returned (.bool (matchB p.data.toList s.data.toList)) ∧ Below w.heap.size w w' := by
  have hP := fun W => pattern_ref p W hp
  have hQ := fun W => path_ref s W hs
  unfold matchB
  by_cases h1 : patE p.data.toList = 0
  · rw [h1] at hP ⊢
    by_cases h2 : pathE s.data.toList = 0
    · rw [h2] at hQ ⊢
      exact match_ref_in p s w (patE_long h1) (pathE_long h2) (Lib.hid hP) (Lib.hid hQ)
    · rw [show (pathE s.data.toList == 0) = false by rw [beq_eq_false_iff_ne]; exact h2]
      have e2 : (pathE s.data.toList == 0) = false := by rw [beq_eq_false_iff_ne]; exact h2
      have HP := Lib.hid hP
      have HQ := Lib.hid hQ
      generalize pathE s.data.toList = E at *
      clear hP hQ
      go_enter Tryd.func24, Tryd.ntmps24
      go_wp2_with (first
        | (go_at_call 22; with_reducible refine (HP.out _).mono ?_; rintro e w1 ⟨rfl, hb1⟩)
        | (go_at_call 15; with_reducible refine (HQ.out _).mono ?_; rintro e w2 ⟨rfl, hb2⟩))
      go_ret
      exact ⟨rfl, below_on hb1 hb2⟩
  · rw [show (patE p.data.toList == 0) = false by rw [beq_eq_false_iff_ne]; exact h1]
    have e2 : (patE p.data.toList == 0) = false := by rw [beq_eq_false_iff_ne]; exact h1
    have HP := Lib.hid hP
    generalize patE p.data.toList = E at *
    clear hP hQ
    go_enter Tryd.func24, Tryd.ntmps24
    go_wp2_with (go_at_call 22; with_reducible refine (HP.out _).mono ?_; rintro e w1 ⟨rfl, hb1⟩)
    go_ret
    exact ⟨rfl, hb1⟩

set_option maxHeartbeats 1000000 in
set_option maxRecDepth 100000 in
theorem law_matches (p s : ByteArray) (w : World) (hp : p.size ≤ 9223372036854775807) (hs : s.size ≤ 9223372036854775807) (hm : Ml w) :
    Calls Tryd.prog 6 #[.string p, .string s] w fun e w' => e = .returned (.bool true) ∧ Below w.heap.size w w' := by
  have HA := Lib.hid awake_any
  have H1 := Lib.hid (fun W h => pattern_any p W hp h)
  have H2 := Lib.hid (fun W => pattern_ref p W hp)
  have H3 := Lib.hid (fun W h => match_any p s W hp hs h)
  have H4 := Lib.hid (fun W => match_ref p s W hp hs)
  generalize patE p.data.toList = E at *
  generalize matchB p.data.toList s.data.toList = B at *
  have hB : Below w.heap.size w w := Below.refl _ _
  cases B
  all_goals
    go_enter Tryd.func6, Tryd.ntmps6
    go_wp2_with (first
      | (go_at_call 21; with_reducible refine (H1.out _ hm).mono ?_; rintro e w1 ⟨rfl, hb1⟩; have hB := below_on hB hb1)
      | (go_at_call 22; with_reducible refine (H2.out _).mono ?_; rintro e w1 ⟨rfl, hb1⟩; have hB := below_on hB hb1)
      | (go_at_call 23; with_reducible refine (H3.out _ (hm.on hB)).mono ?_; rintro e w1 ⟨rfl, hb1⟩; have hB := below_on hB hb1)
      | (go_at_call 24; with_reducible refine (H4.out _).mono ?_; rintro e w1 ⟨rfl, hb1⟩; have hB := below_on hB hb1)
      | (go_at_call 16; with_reducible refine (HA.out _ (hm.on hB)).mono ?_; rintro e w1 ⟨rfl, hb1⟩; have hB := below_on hB hb1))
    go_ret
    exact ⟨rfl, hB⟩
end Go.Proofs.YtjhbmcgaehpadaaDoor
