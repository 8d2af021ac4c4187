/- The walks through the reference's reader: Num and what stands on it. -/
import Derived.Test.YtlfennooocmclaaDoorRefRd
namespace Go.Proofs.YtlfennooocmclaaDoor
open Go.RowKit

theorem qbyte_to (b : Nat) (r : Rd) (c : Nat) (r1 : Rd) (w : World) (h : Qdr w b r) (ho : r.ok) (hx : Hid (rdByte r = (c, r1))) :
    Calls Tryd.prog 79 #[.pointer (some ⟨b, 0, none⟩)] w fun e w' => e = .returned (.int .i64 c) ∧ Qdr w' b r1 ∧ w.grownBy w' (some b) := by
  have := qbyte_any b r w h ho
  rw [hx.out] at this
  exact this

theorem pow128_le {i : Nat} (hi : i ≤ 8) : 128 ^ i ≤ 72057594037927936 := by
  have h2 : 128 ^ i ≤ 128 ^ 8 := Nat.pow_le_pow_right (by omega) hi
  have e8 : 128 ^ 8 = 72057594037927936 := by decide
  omega
theorem num_mul {c u i : Nat} (hi : i ≤ 8) (hu : Hid (u = 128 ^ i)) (h8 : i = 8 → c ≤ 63) : c % 128 * u ≤ 4611686018427387904 - u := by
  by_cases h : i = 8
  · have e8 : 128 ^ 8 = 72057594037927936 := by decide
    have hu' := hu.out
    subst h
    rw [e8] at hu'
    subst hu'
    have := h8 rfl
    omega
  · have h1 : 128 ^ i ≤ 128 ^ 7 := Nat.pow_le_pow_right (by omega) (by omega)
    have e7 : 128 ^ 7 = 562949953421312 := by decide
    have hu' := hu.out
    have h2 : c % 128 * u ≤ 127 * u := Nat.mul_le_mul_right _ (by omega)
    omega

set_option maxHeartbeats 2000000 in
set_option maxRecDepth 100000 in
theorem qnum_any (b : Nat) (r : Rd) (w : World) (h : Qdr w b r) (ho : r.ok) :
    Calls Tryd.prog 62 #[.pointer (some ⟨b, 0, none⟩)] w fun e w' => e = .returned (.int .i64 (rdNum r).1) ∧ Qdr w' b (rdNum r).2 ∧ w.grownBy w' (some b) := by
  go_enter Tryd.func62, Tryd.ntmps62
  go_wp2
  go_loopw [3, 4, 5] (fun v3 v4 v5 wr => ∃ (i n u : Nat) (st : Rd), i ≤ 8 ∧ n < u ∧ u ≤ 72057594037927936 ∧ v3 = .int .i64 n ∧ v4 = .int .i64 u ∧ v5 = .int .i64 i ∧ Qdr wr b st ∧ st.ok ∧ w.grownBy wr (some b) ∧ Hid (u = 128 ^ i) ∧ Hid (rdNumGo (9 - i) i n st = rdNum r)) (fun _ _ v5 _ => 9 - (intOf v5).toNat)
  case atStart => exact ⟨0, 0, 1, r, by omega, by omega, by omega, rfl, rfl, rfl, h, ho, World.grownBy.refl _ _, rfl, rfl⟩
  case round =>
    obtain ⟨i, n, u, st, hi, hn, hu, rfl, rfl, rfl, hr, ho', hg, HU, HE⟩ := hrel
    obtain ⟨c, st1, hx0⟩ : ∃ c st1, rdByte st = (c, st1) := ⟨_, _, rfl⟩
    have hc : c < 256 := by have := rdByte_lt st; rw [hx0] at this; exact this
    have ho1 : st1.ok := by have := rdByte_ok ho'; rw [hx0] at this; exact this
    have hx : Hid (rdByte st = (c, st1)) := hx0
    have HE2 : rdNum r = (if st1.e ≠ 0 then (0, st1) else if (i = 8 ∧ 63 < c) ∨ (0 < i ∧ c = 0) then (0, { st1 with e := 5 })
        else if c < 128 then (n + c % 128 * 128 ^ i, st1) else rdNumGo (9 - (i + 1)) (i + 1) (n + c % 128 * 128 ^ i) st1) := by
      rw [← HE.out, show 9 - i = (9 - (i + 1)) + 1 by omega, rdNumGo, hx0]
    rw [← HU.out] at HE2
    clear hx0
    by_cases h0 : st1.e = 0
    · have hb0 := beq0 h0
      rw [if_neg (by simp [h0])] at HE2
      clear h0
      by_cases hbad : (i = 8 ∧ 63 < c) ∨ (0 < i ∧ c = 0)
      · rw [if_pos hbad] at HE2
        have HX := Lib.hid HE2
        clear HE2 HE
        have hbad' : (0 < i ∧ c ≤ 0) ∨ (0 < i ∧ 0 < c ∧ 8 ≤ i ∧ 63 < c) := by omega
        clear hbad
        rcases hbad' with ⟨hb1, hb2⟩ | ⟨hb1, hb2, hb3, hb4⟩
        · obtain rfl : c = 0 := by omega
          go_wp2_with (go_at_call 79; refine (qbyte_to b st 0 st1 _ hr ho' hx).mono ?_; rintro e w1 ⟨rfl, h1, g1⟩; have c2 := h1.c2; have f2 := h1.f2)
          go_ret
          rw [HX.out]
          exact ⟨rfl, h1.set2 5, only_setCell (only_trans hg g1) (.inl rfl) _⟩
        · have hci : ((c : Int) == 0) = false := by simp; omega
          obtain rfl : i = 8 := by omega
          go_wp2_with (go_at_call 79; refine (qbyte_to b st c st1 _ hr ho' hx).mono ?_; rintro e w1 ⟨rfl, h1, g1⟩; have c2 := h1.c2; have f2 := h1.f2)
          go_ret
          rw [HX.out]
          exact ⟨rfl, h1.set2 5, only_setCell (only_trans hg g1) (.inl rfl) _⟩
      · rw [if_neg hbad] at HE2
        have HX := Lib.hid HE2
        clear HE2 HE
        have hp := num_mul (c := c) hi HU (by omega)
        obtain ⟨p, hpe⟩ : ∃ p, c % 128 * u = p := ⟨_, rfl⟩
        have hm : wrap64 ((c : Int) % 128 * (u : Int)) = (p : Int) := by
          have e : (c : Int) % 128 * (u : Int) = (p : Int) := by rw [← hpe]; push_cast; rfl
          rw [e]
          exact IntWalk.wrap64_in _ ⟨by omega, by omega⟩
        have hnx : n + p < u * 128 := by
          have h2 : c % 128 * u ≤ 127 * u := Nat.mul_le_mul_right _ (by omega)
          omega
        have HPE := Lib.hid hpe
        rw [hpe] at hp
        clear hpe
        have h7 : i ≤ 0 ∨ (0 < i ∧ i < 8 ∧ 0 < c) ∨ (8 ≤ i ∧ c ≤ 63 ∧ 0 < c) := by omega
        clear hbad
        by_cases hlt : c < 128
        · rcases h7 with h7 | ⟨h71, h72, h73⟩ | ⟨h71, h72, h73⟩
          rotate_left
          all_goals
            try have hci : ((c : Int) == 0) = false := by simp; omega
            go_wp2_with (go_at_call 79; refine (qbyte_to b st c st1 _ hr ho' hx).mono ?_; rintro e w1 ⟨rfl, h1, g1⟩; have c2 := h1.c2; have f2 := h1.f2)
            go_ret
            rw [HX.out, if_pos hlt, HPE.out]
            exact ⟨by go_num, by assumption, only_trans hg (by assumption)⟩
        · have hu2 : i < 8 → u * 128 ≤ 72057594037927936 := fun h => by
            have := pow128_le (i := i + 1) (by omega)
            rw [Nat.pow_succ, ← HU.out] at this
            exact this
          rcases h7 with h7 | ⟨h71, h72, h73⟩ | ⟨h71, h72, h73⟩
          rotate_right
          · omega
          all_goals
            have hu3 := hu2 (by omega)
            clear hu2
            have hci : ((c : Int) == 0) = false := by simp; omega
            go_wp2_with (go_at_call 79; refine (qbyte_to b st c st1 _ hr ho' hx).mono ?_; rintro e w1 ⟨rfl, h1, g1⟩; have c2 := h1.c2; have f2 := h1.f2)
            go_roundw
            case rel => exact ⟨i + 1, n + p, u * 128, st1, by omega, hnx, hu3, by go_num, by go_num, by go_num, by assumption, ho1, only_trans hg (by assumption), (by show u * 128 = 128 ^ (i + 1); rw [Nat.pow_succ, HU.out]), by have := HX.out; rw [if_neg hlt, HPE.out] at this; exact this.symm⟩
            case measure => simp [intOf]; omega
    · have hb0 := bne0 h0
      rw [if_pos h0] at HE2
      have HX := Lib.hid HE2
      clear HE2 HE
      go_wp2_with (go_at_call 79; refine (qbyte_to b st c st1 _ hr ho' hx).mono ?_; rintro e w1 ⟨rfl, h1, g1⟩; have c2 := h1.c2; have f2 := h1.f2)
      go_ret
      rw [HX.out]
      exact ⟨rfl, h1, only_trans hg g1⟩
end Go.Proofs.YtlfennooocmclaaDoor
