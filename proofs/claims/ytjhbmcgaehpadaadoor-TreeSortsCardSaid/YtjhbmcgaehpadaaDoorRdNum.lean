/- The walk through the program's reader's Num. -/
import Derived.Test.YtjhbmcgaehpadaaDoorRdWalk
namespace Go.Proofs.YtjhbmcgaehpadaaDoor
open Go.RowKit

set_option maxHeartbeats 1000000 in
set_option maxRecDepth 100000 in
theorem num_any (b : Nat) (r : Rd) (w : World) (h : Rdr w b r) (ho : r.ok) :
    Calls Tryd.prog 72 #[.pointer (some ⟨b, 0, none⟩)] w fun e w' => e = .returned (.int .i64 (rdNum r).1) ∧ Rdr w' b (rdNum r).2 ∧ w.grownBy w' (some b) := by
  go_enter Tryd.func72, Tryd.ntmps72
  go_wp2
  go_loopw [3, 4] (fun v3 v4 wr => ∃ (i n : Nat) (st : Rd), i ≤ 8 ∧ n < 128 ^ i ∧ v3 = .int .i64 n ∧ v4 = .int .i64 i ∧ Rdr wr b st ∧ st.ok ∧ w.grownBy wr (some b) ∧ Hid (rdNumGo (9 - i) i n st = rdNum r)) (fun _ v4 _ => 9 - (intOf v4).toNat)
  case atStart => exact ⟨0, 0, r, by omega, by simp, rfl, rfl, h, ho, World.grownBy.refl _ _, rfl⟩
  case round =>
    obtain ⟨i, n, st, hi, hn, rfl, rfl, hr, ho', hg, HE⟩ := hrel
    obtain ⟨c, st1, hx0⟩ : ∃ c st1, rdByte st = (c, st1) := ⟨_, _, rfl⟩
    have hc : c < 256 := by have := rdByte_lt st; rw [hx0] at this; exact this
    have ho1 : st1.ok := by have := rdByte_ok ho'; rw [hx0] at this; exact this
    have hx : Hid (rdByte st = (c, st1)) := hx0
    have HE2 : rdNum r = (if st1.e ≠ 0 then (0, st1) else if (i = 8 ∧ 63 < c) ∨ (0 < i ∧ c = 0) then (0, { st1 with e := 5 })
        else if c < 128 then (n + c % 128 * 128 ^ i, st1) else rdNumGo (9 - (i + 1)) (i + 1) (n + c % 128 * 128 ^ i) st1) := by
      rw [← HE.out, show 9 - i = (9 - (i + 1)) + 1 by omega, rdNumGo, hx0]
    clear hx0
    by_cases h0 : st1.e = 0
    · have hb0 := beq0 h0
      have H0 := Lib.hid h0
      rw [if_neg (by simp [h0])] at HE2
      clear h0
      by_cases hbad : (i = 8 ∧ 63 < c) ∨ (0 < i ∧ c = 0)
      · rw [if_pos hbad] at HE2
        have HX := Lib.hid HE2
        clear HE2 HE
        have hbad' : (i = 8 ∧ 63 < c) ∨ (¬ (i = 8 ∧ 63 < c) ∧ 0 < i ∧ c = 0) := by omega
        rcases hbad' with ⟨hb1, hb2⟩ | ⟨hb1, hb2, hb3⟩
        · go_wp2_with (first | (go_at_call 94; refine (byte_to b st c st1 _ hr ho' hx).mono ?_; rintro e w1 ⟨rfl, h1, g1⟩) | (go_at_call 92; refine (off_any _ _ _ (by assumption)).mono ?_; rintro e w' ⟨rfl, rfl⟩) | (go_at_call 93; refine (fail_any b st1 5 _ (by assumption) H0.out).mono ?_; rintro e w2 ⟨rfl, h2, g2⟩))
          go_ret
          rw [HX.out]
          exact ⟨rfl, h2, only_trans (only_trans hg g1) g2⟩
        · subst hb3
          go_wp2_with (first | (go_at_call 94; refine (byte_to b st 0 st1 _ hr ho' hx).mono ?_; rintro e w1 ⟨rfl, h1, g1⟩) | (go_at_call 92; refine (off_any _ _ _ (by assumption)).mono ?_; rintro e w' ⟨rfl, rfl⟩) | (go_at_call 93; refine (fail_any b st1 5 _ (by assumption) H0.out).mono ?_; rintro e w2 ⟨rfl, h2, g2⟩))
          all_goals
            go_ret
            rw [HX.out]
            exact ⟨rfl, by assumption, only_trans (only_trans hg (by assumption)) (by assumption)⟩
      · rw [if_neg hbad] at HE2
        have HX := Lib.hid HE2
        clear HE2 HE
        have hand := i64_and_127 c (by omega)
        have hor := num_or hi hn (c := c) (by omega)
        have hnx := num_next (c := c) hn
        have HN := Lib.hid hnx
        clear hnx
        have h7 : i ≤ 0 ∨ (0 < i ∧ i < 8 ∧ 0 < c) ∨ (8 ≤ i ∧ c ≤ 63 ∧ 0 < c) := by omega
        clear hbad
        by_cases hlt : c < 128
        · rcases h7 with h7 | ⟨h71, h72, h73⟩ | ⟨h71, h72, h73⟩
          rotate_right
          · obtain rfl : i = 8 := by omega
            have hor8 := num_or8 hn h72
            clear hor
            go_wp2_with (first | (go_at_call 94; refine (byte_to b st c st1 _ hr ho' hx).mono ?_; rintro e w1 ⟨rfl, h1, g1⟩) | (go_at_call 92; refine (off_any _ _ _ (by assumption)).mono ?_; rintro e w' ⟨rfl, rfl⟩))
            go_ret
            rw [HX.out, if_pos hlt]
            exact ⟨rfl, by assumption, only_trans hg (by assumption)⟩
          all_goals
            go_wp2_with (first | (go_at_call 94; refine (byte_to b st c st1 _ hr ho' hx).mono ?_; rintro e w1 ⟨rfl, h1, g1⟩) | (go_at_call 92; refine (off_any _ _ _ (by assumption)).mono ?_; rintro e w' ⟨rfl, rfl⟩))
            go_ret
            rw [HX.out, if_pos hlt]
            exact ⟨rfl, by assumption, only_trans hg (by assumption)⟩
        · rcases h7 with h7 | ⟨h71, h72, h73⟩ | ⟨h71, h72, h73⟩
          rotate_right
          · omega
          all_goals
            go_wp2_with (first | (go_at_call 94; refine (byte_to b st c st1 _ hr ho' hx).mono ?_; rintro e w1 ⟨rfl, h1, g1⟩) | (go_at_call 92; refine (off_any _ _ _ (by assumption)).mono ?_; rintro e w' ⟨rfl, rfl⟩))
            go_roundw
            case rel => exact ⟨i + 1, _, st1, by omega, HN.out, rfl, by go_num, by assumption, ho1, only_trans hg (by assumption), by have := HX.out; rw [if_neg hlt] at this; exact this.symm⟩
            case measure => simp [intOf]; omega
    · have hb0 := bne0 h0
      rw [if_pos h0] at HE2
      have HX := Lib.hid HE2
      clear HE2 HE
      go_wp2_with (first | (go_at_call 94; refine (byte_to b st c st1 _ hr ho' hx).mono ?_; rintro e w1 ⟨rfl, h1, g1⟩) | (go_at_call 92; refine (off_any _ _ _ (by assumption)).mono ?_; rintro e w' ⟨rfl, rfl⟩))
      go_ret
      rw [HX.out]
      exact ⟨rfl, h1, only_trans hg g1⟩
end Go.Proofs.YtjhbmcgaehpadaaDoor
