/- The walks through the reference's reader: Count, Text, Signed, and its lists. -/
import Derived.Test.YtennmnoghipnfaaRefNum
namespace Go.Proofs.Ytennmnoghipnfaa
open Go.RowKit


set_option maxRecDepth 100000 in
theorem qcount_any (b : Nat) (r : Rd) (most : Int) (w : World) (h : Qdr w b r) (ho : r.ok) :
    Calls Try.prog 37 #[.pointer (some ⟨b, 0, none⟩), .int .i64 most] w fun e w' => e = .returned (.int .i64 (rdCount r most).1) ∧ Qdr w' b (rdCount r most).2 ∧ w.grownBy w' (some b) := by
  have hc := qnum_any b r w h ho
  obtain ⟨n, r1, hx⟩ : ∃ n r1, rdNum r = (n, r1) := ⟨_, _, rfl⟩
  have HX : rdCount r most = if r1.e = 0 ∧ most < n then (0, { r1 with e := 4 }) else (n, r1) := by unfold rdCount; rw [hx]
  rw [hx] at hc
  simp only [] at hc
  have HC := Lib.hid hc
  clear hc hx
  by_cases h0 : r1.e = 0
  · have hb0 : (r1.e == 0) = true := by simpa using h0
    by_cases hlt : most < n
    · rw [if_pos ⟨h0, hlt⟩] at HX
      have HX := Lib.hid HX
      clear h0
      go_enter Try.func37, Try.ntmps37
      go_wp2_with (go_at_call 38; refine HC.out.mono ?_; rintro e w1 ⟨rfl, h1, g1⟩; have c2 := h1.c2; have f2 := h1.f2)
      go_ret
      rw [HX.out]
      exact ⟨rfl, h1.set2 4, only_setCell g1 (.inl rfl) _⟩
    · rw [if_neg (by omega)] at HX
      have HX := Lib.hid HX
      clear h0
      go_enter Try.func37, Try.ntmps37
      go_wp2_with (go_at_call 38; refine HC.out.mono ?_; rintro e w1 ⟨rfl, h1, g1⟩; have c2 := h1.c2; have f2 := h1.f2)
      go_ret
      rw [HX.out]
      exact ⟨rfl, h1, g1⟩
  · have hb0 : (r1.e == 0) = false := by simpa using h0
    rw [if_neg (by omega)] at HX
    have HX := Lib.hid HX
    go_enter Try.func37, Try.ntmps37
    go_wp2_with (go_at_call 38; refine HC.out.mono ?_; rintro e w1 ⟨rfl, h1, g1⟩; have c2 := h1.c2; have f2 := h1.f2)
    go_ret
    rw [HX.out]
    exact ⟨rfl, h1, g1⟩



end Go.Proofs.Ytennmnoghipnfaa
