/- The walks through the reference's reader: Count, Text, Signed, and its lists. -/
import Derived.Test.YtlfennooocmclaaDoorRefNum
namespace Go.Proofs.YtlfennooocmclaaDoor
open Go.RowKit


set_option maxRecDepth 100000 in
theorem qcount_any (b : Nat) (r : Rd) (most : Int) (w : World) (h : Qdr w b r) (ho : r.ok) :
    Calls Tryd.prog 60 #[.pointer (some ⟨b, 0, none⟩), .int .i64 most] w fun e w' => e = .returned (.int .i64 (rdCount r most).1) ∧ Qdr w' b (rdCount r most).2 ∧ w.grownBy w' (some b) := by
  have hc := qnum_any b r w h ho
  obtain ⟨n, r1, hx⟩ : ∃ n r1, rdNum r = (n, r1) := ⟨_, _, rfl⟩
  have HX : rdCount r most = if r1.e = 0 ∧ most < n then (0, { r1 with e := 4 }) else (n, r1) := by unfold rdCount; rw [hx]
  rw [hx] at hc
  simp only [] at hc
  have HC := Lib.hid hc
  clear hc hx
  by_cases h0 : r1.e = 0
  · have hb0 : (r1.e == 0) = true := by simpa using h0
    by_cases hlt : most < n
    · rw [if_pos ⟨h0, hlt⟩] at HX
      have HX := Lib.hid HX
      clear h0
      go_enter Tryd.func60, Tryd.ntmps60
      go_wp2_with (go_at_call 62; refine HC.out.mono ?_; rintro e w1 ⟨rfl, h1, g1⟩; have c2 := h1.c2; have f2 := h1.f2)
      go_ret
      rw [HX.out]
      exact ⟨rfl, h1.set2 4, only_setCell g1 (.inl rfl) _⟩
    · rw [if_neg (by omega)] at HX
      have HX := Lib.hid HX
      clear h0
      go_enter Tryd.func60, Tryd.ntmps60
      go_wp2_with (go_at_call 62; refine HC.out.mono ?_; rintro e w1 ⟨rfl, h1, g1⟩; have c2 := h1.c2; have f2 := h1.f2)
      go_ret
      rw [HX.out]
      exact ⟨rfl, h1, g1⟩
  · have hb0 : (r1.e == 0) = false := by simpa using h0
    rw [if_neg (by omega)] at HX
    have HX := Lib.hid HX
    go_enter Tryd.func60, Tryd.ntmps60
    go_wp2_with (go_at_call 62; refine HC.out.mono ?_; rintro e w1 ⟨rfl, h1, g1⟩; have c2 := h1.c2; have f2 := h1.f2)
    go_ret
    rw [HX.out]
    exact ⟨rfl, h1, g1⟩

set_option maxRecDepth 100000 in
theorem qtext_any (b : Nat) (r : Rd) (most : Int) (w : World) (h : Qdr w b r) (ho : r.ok) :
    Calls Tryd.prog 61 #[.pointer (some ⟨b, 0, none⟩), .int .i64 most] w fun e w' => e = .returned (.string (rdText r most).1) ∧ Qdr w' b (rdText r most).2 ∧ w.grownBy w' (some b) := by
  have hc := qcount_any b r most w h ho
  have hle := rdCount_le r most
  have ho1 := rdCount_ok (m := most) ho
  unfold rdText
  obtain ⟨n, r1, hx⟩ : ∃ n r1, rdCount r most = (n, r1) := ⟨_, _, rfl⟩
  rw [hx] at hc hle ho1 ⊢
  simp only [] at hc hle ho1 ⊢
  have HC := Lib.hid hc
  clear hc hx
  go_enter Tryd.func61, Tryd.ntmps61
  go_wp2_with (first | (go_at_call 60; refine HC.out.mono ?_; rintro e w1 ⟨rfl, h1, g1⟩) | (go_at_call 78; refine (qraw_any _ _ _ _ (by assumption) ho1 (by omega) (by omega)).mono ?_; rintro e w2 ⟨rfl, h2, g2⟩))
  go_ret
  exact ⟨rfl, h2, only_trans g1 g2⟩


end Go.Proofs.YtlfennooocmclaaDoor
