/- The walks through the program's reader: Count, Text, Signed, End. -/
import Derived.Test.YtjhbmcgaehpadaaDoorRdNum
import Derived.Test.YtjhbmcgaehpadaaDoorRdLaws
namespace Go.Proofs.YtjhbmcgaehpadaaDoor
open Go.RowKit

theorem i64_and_1 (k : Nat) (hk : k < 9223372036854775808) : bits .and .i64 (k : Int) 1 = (k : Int) % 2 := by
  have := i64_and_nat k 1 hk (by decide)
  rw [show (1 : Nat) = 2 ^ 1 - 1 from rfl, Nat.and_two_pow_sub_one_eq_mod] at this
  simpa using this

set_option maxRecDepth 100000 in
theorem end_any (b : Nat) (r : Rd) (w : World) (h : Rdr w b r) (ho : r.ok) :
    Calls Tryd.prog 75 #[.pointer (some ⟨b, 0, none⟩)] w fun e w' => e = .returned (.int .i64 (rdEnd r).e) ∧ Rdr w' b (rdEnd r) ∧ w.grownBy w' (some b) := by
  by_cases h0 : r.e = 0
  · have hb0 := beq0 h0
    have H0 := Lib.hid h0
    by_cases hlt : r.at_ < r.s.size
    · have HX : Hid (rdEnd r = { r with e := 4 }) := if_pos ⟨h0, hlt⟩
      clear h0
      go_enter Tryd.func75, Tryd.ntmps75
      go_wp2_with (go_at_call 92; refine (off_any _ _ _ (by assumption)).mono ?_; rintro e w' ⟨rfl, rfl⟩)
      refine (left_any _ _ _ h ho).mono ?_
      rintro e w' ⟨rfl, nn, rfl⟩
      have h' : Rdr (w.drewN nn) b r := h
      go_wp2_with (first | (go_at_call 93; refine (fail_any _ _ _ _ (by assumption) H0.out).mono ?_; rintro e w2 ⟨rfl, h2, g2⟩) | (go_at_call 74; refine (err_any _ _ _ (by assumption)).mono ?_; rintro e w1 ⟨rfl, rfl⟩))
      go_ret
      rw [HX.out]
      exact ⟨rfl, h2, only_trans (only_drewN (World.grownBy.refl _ _) _) g2⟩
    · have HX : Hid (rdEnd r = r) := if_neg (by omega)
      clear h0
      go_enter Tryd.func75, Tryd.ntmps75
      go_wp2_with (go_at_call 92; refine (off_any _ _ _ (by assumption)).mono ?_; rintro e w' ⟨rfl, rfl⟩)
      refine (left_any _ _ _ h ho).mono ?_
      rintro e w' ⟨rfl, nn, rfl⟩
      have h' : Rdr (w.drewN nn) b r := h
      go_wp2_with (first | (go_at_call 93; refine (fail_any _ _ _ _ (by assumption) H0.out).mono ?_; rintro e w2 ⟨rfl, h2, g2⟩) | (go_at_call 74; refine (err_any _ _ _ (by assumption)).mono ?_; rintro e w1 ⟨rfl, rfl⟩))
      go_ret
      rw [HX.out]
      exact ⟨rfl, h', (only_drewN (World.grownBy.refl _ _) _)⟩
  · have hb0 := bne0 h0
    have HX : Hid (rdEnd r = r) := if_neg (by omega)
    go_enter Tryd.func75, Tryd.ntmps75
    go_wp2_with (first | (go_at_call 92; refine (off_any _ _ _ (by assumption)).mono ?_; rintro e w' ⟨rfl, rfl⟩) | (go_at_call 74; refine (err_any _ _ _ (by assumption)).mono ?_; rintro e w1 ⟨rfl, rfl⟩))
    go_ret
    rw [HX.out]
    exact ⟨rfl, h, World.grownBy.refl _ _⟩


set_option maxRecDepth 100000 in
theorem count_any (b : Nat) (r : Rd) (most : Int) (w : World) (h : Rdr w b r) (ho : r.ok) :
    Calls Tryd.prog 70 #[.pointer (some ⟨b, 0, none⟩), .int .i64 most] w fun e w' => e = .returned (.int .i64 (rdCount r most).1) ∧ Rdr w' b (rdCount r most).2 ∧ w.grownBy w' (some b) := by
  have hc := num_any b r w h ho
  obtain ⟨n, r1, hx⟩ : ∃ n r1, rdNum r = (n, r1) := ⟨_, _, rfl⟩
  have HX : rdCount r most = if r1.e = 0 ∧ most < n then (0, { r1 with e := 4 }) else (n, r1) := by unfold rdCount; rw [hx]
  rw [hx] at hc
  simp only [] at hc
  have HC := Lib.hid hc
  clear hc hx
  by_cases h0 : r1.e = 0
  · have hb0 := beq0 h0
    have H0 := Lib.hid h0
    by_cases hlt : most < n
    · rw [if_pos ⟨h0, hlt⟩] at HX
      have HX := Lib.hid HX
      clear h0
      go_enter Tryd.func70, Tryd.ntmps70
      go_wp2_with (first | (go_at_call 72; refine HC.out.mono ?_; rintro e w1 ⟨rfl, h1, g1⟩) | (go_at_call 92; refine (off_any _ _ _ (by assumption)).mono ?_; rintro e w' ⟨rfl, rfl⟩) | (go_at_call 93; refine (fail_any _ _ _ _ (by assumption) H0.out).mono ?_; rintro e w2 ⟨rfl, h2, g2⟩))
      go_ret
      rw [HX.out]
      exact ⟨rfl, h2, only_trans g1 g2⟩
    · rw [if_neg (by omega)] at HX
      have HX := Lib.hid HX
      clear h0
      go_enter Tryd.func70, Tryd.ntmps70
      go_wp2_with (first | (go_at_call 72; refine HC.out.mono ?_; rintro e w1 ⟨rfl, h1, g1⟩) | (go_at_call 92; refine (off_any _ _ _ (by assumption)).mono ?_; rintro e w' ⟨rfl, rfl⟩) | (go_at_call 93; refine (fail_any _ _ _ _ (by assumption) H0.out).mono ?_; rintro e w2 ⟨rfl, h2, g2⟩))
      go_ret
      rw [HX.out]
      exact ⟨rfl, h1, g1⟩
  · have hb0 := bne0 h0
    rw [if_neg (by omega)] at HX
    have HX := Lib.hid HX
    go_enter Tryd.func70, Tryd.ntmps70
    go_wp2_with (first | (go_at_call 72; refine HC.out.mono ?_; rintro e w1 ⟨rfl, h1, g1⟩) | (go_at_call 92; refine (off_any _ _ _ (by assumption)).mono ?_; rintro e w' ⟨rfl, rfl⟩) | (go_at_call 93; refine (fail_any _ _ _ _ (by assumption) H0.out).mono ?_; rintro e w2 ⟨rfl, h2, g2⟩))
    go_ret
    rw [HX.out]
    exact ⟨rfl, h1, g1⟩

theorem rdCount_ok {r : Rd} {m : Int} (h : r.ok) : (rdCount r m).2.ok := by
  unfold rdCount
  simp only []
  split <;> exact rdNum_ok h
theorem rdCount_le (r : Rd) (m : Int) : (rdCount r m).1 ≤ 4611686018427387903 := by
  unfold rdCount
  simp only []
  split
  · simp
  · exact rdNum_le r

set_option maxRecDepth 100000 in
theorem text_any (b : Nat) (r : Rd) (most : Int) (w : World) (h : Rdr w b r) (ho : r.ok) :
    Calls Tryd.prog 71 #[.pointer (some ⟨b, 0, none⟩), .int .i64 most] w fun e w' => e = .returned (.string (rdText r most).1) ∧ Rdr w' b (rdText r most).2 ∧ w.grownBy w' (some b) := by
  have hc := count_any b r most w h ho
  have hle := rdCount_le r most
  have ho1 := rdCount_ok (m := most) ho
  unfold rdText
  obtain ⟨n, r1, hx⟩ : ∃ n r1, rdCount r most = (n, r1) := ⟨_, _, rfl⟩
  rw [hx] at hc hle ho1 ⊢
  simp only [] at hc hle ho1 ⊢
  have HC := Lib.hid hc
  clear hc hx
  go_enter Tryd.func71, Tryd.ntmps71
  go_wp2_with (first | (go_at_call 70; refine HC.out.mono ?_; rintro e w1 ⟨rfl, h1, g1⟩) | (go_at_call 73; refine (raw_any _ _ _ _ (by assumption) ho1 (by omega) (by omega)).mono ?_; rintro e w2 ⟨rfl, h2, g2⟩))
  go_ret
  exact ⟨rfl, h2, only_trans g1 g2⟩
end Go.Proofs.YtjhbmcgaehpadaaDoor
