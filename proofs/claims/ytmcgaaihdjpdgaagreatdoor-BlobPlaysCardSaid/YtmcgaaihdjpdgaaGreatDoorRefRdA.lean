/- The walks through the reference's reader.; The walks through the reference's reader: Num and what stands on it.; The walks through the reference's reader: Count, Text, Signed, and its lists.; Lists of numbers and of texts as bytes: plain lemmas, no program in sight. -/
import Derived.Test.YtmcgaaihdjpdgaaGreatDoorRdAll
/- The walks through the reference's reader. -/
namespace Go.Proofs.YtmcgaaihdjpdgaaGreatDoor
open Go.RowKit

/-- Block b is a reader (of the reference) in this state. -/
def Qdr (w : World) (b : Nat) (r : Rd) : Prop := Blk w b 94 #[.string r.s, .int .i64 r.at_, .int .i64 r.e]
section
variable {w w' : World} {b : Nat} {r : Rd}
theorem Qdr.c0 (h : Qdr w b r) : w.cell? ⟨b, 0, none⟩ = some (.string r.s) := Blk.cell h 0
theorem Qdr.c1 (h : Qdr w b r) : w.cell? ⟨b, 1, none⟩ = some (.int .i64 r.at_) := Blk.cell h 1
theorem Qdr.c2 (h : Qdr w b r) : w.cell? ⟨b, 2, none⟩ = some (.int .i64 r.e) := Blk.cell h 2
theorem Qdr.f1 (h : Qdr w b r) : w.frozen? ⟨b, 1, none⟩ = false := Blk.frozen h 1
theorem Qdr.f2 (h : Qdr w b r) : w.frozen? ⟨b, 2, none⟩ = false := Blk.frozen h 2
theorem Qdr.set1 (h : Qdr w b r) (n : Nat) : Qdr (w.setCell ⟨b, 1, none⟩ (.int .i64 n)) b { r with at_ := n } := Blk.set_ h 1 _
theorem Qdr.set2 (h : Qdr w b r) (e : Int) : Qdr (w.setCell ⟨b, 2, none⟩ (.int .i64 e)) b { r with e := e } := Blk.set_ h 2 _
end

set_option maxRecDepth 100000 in
theorem qbyte_any (b : Nat) (r : Rd) (w : World) (h : Qdr w b r) (ho : r.ok) :
    Calls Tryz.prog 82 #[.pointer (some ⟨b, 0, none⟩)] w fun e w' => e = .returned (.int .i64 (rdByte r).1) ∧ Qdr w' b (rdByte r).2 ∧ w.grownBy w' (some b) := by
  obtain ⟨ho1, ho2⟩ := ho
  have c2 := h.c2
  by_cases h0 : r.e = 0
  · have hb0 := beq0 h0
    have c0 := h.c0
    have c1 := h.c1
    have f1 := h.f1
    have f2 := h.f2
    by_cases hlt : r.at_ < r.s.size
    · have e : rdByte r = ((r.s[r.at_]).toNat, { r with at_ := r.at_ + 1 }) := by unfold rdByte; simp [h0, hlt]
      rw [e]
      have H0 := Lib.hid h0
      clear h0 e
      have hne : decide ((r.s.size : Int) ≤ (r.at_ : Int)) = false := by simp; omega
      have hbd : (r.s[r.at_]).toNat < 256 := UInt8.toNat_lt _
      go_enter Tryz.func82, Tryz.ntmps82
      go_wp2
      go_quiet (fail)
      go_wp2
      go_quiet (fail)
      go_wp2
      go_ret
      exact ⟨rfl, h.set1 (r.at_ + 1), only_drewN (only_setCell (only_drewN (World.grownBy.refl _ _) _) (.inl rfl) _) _⟩
    · have e : rdByte r = (0, { r with e := 3 }) := by unfold rdByte; simp [h0, hlt]
      rw [e]
      have H0 := Lib.hid h0
      clear h0 e
      go_enter Tryz.func82, Tryz.ntmps82
      go_wp2
      go_quiet (fail)
      go_wp2
      go_ret
      exact ⟨rfl, h.set2 3, only_setCell (only_drewN (World.grownBy.refl _ _) _) (.inl rfl) _⟩
  · have hb0 := bne0 h0
    have e : rdByte r = (0, r) := by unfold rdByte; simp [h0]
    rw [e]
    go_enter Tryz.func82, Tryz.ntmps82
    go_wp2
    go_ret
    exact ⟨rfl, h, World.grownBy.refl _ _⟩

set_option maxRecDepth 100000 in
theorem qraw_any (b : Nat) (r : Rd) (n : Int) (w : World) (h : Qdr w b r) (ho : r.ok) (hn0 : -9223372036854775808 ≤ n) (hn1 : n ≤ 9223372036854775807) :
    Calls Tryz.prog 52 #[.pointer (some ⟨b, 0, none⟩), .int .i64 n] w fun e w' => e = .returned (.string (rdRaw r n).1) ∧ Qdr w' b (rdRaw r n).2 ∧ w.grownBy w' (some b) := by
  obtain ⟨ho1, ho2⟩ := ho
  have c2 := h.c2
  by_cases h0 : r.e = 0
  · have hb0 := beq0 h0
    have c0 := h.c0
    have c1 := h.c1
    have f1 := h.f1
    have f2 := h.f2
    by_cases hn : n < 0
    · have e : rdRaw r n = (ByteArray.empty, { r with e := 1 }) := by unfold rdRaw; simp [h0, hn]
      rw [e]
      clear h0 e
      go_enter Tryz.func52, Tryz.ntmps52
      go_wp2
      go_ret
      exact ⟨rfl, h.set2 1, only_setCell (World.grownBy.refl _ _) (.inl rfl) _⟩
    · by_cases hs : (r.s.size : Int) - r.at_ < n
      · have e : rdRaw r n = (ByteArray.empty, { r with e := 3 }) := by unfold rdRaw; simp [h0, hn, hs]
        rw [e]
        clear h0 e
        go_enter Tryz.func52, Tryz.ntmps52
        go_wp2
        go_quiet (fail)
        go_wp2
        go_ret
        exact ⟨rfl, h.set2 3, only_setCell (only_drewN (World.grownBy.refl _ _) _) (.inl rfl) _⟩
      · have e : rdRaw r n = (r.s.extract r.at_ (r.at_ + n.toNat), { r with at_ := r.at_ + n.toNat }) := by unfold rdRaw; simp [h0, hn, hs]
        rw [e]
        clear h0 e
        obtain ⟨n, rfl⟩ := Int.eq_ofNat_of_zero_le (show 0 ≤ n by omega)
        rw [Int.toNat_natCast]
        go_enter Tryz.func52, Tryz.ntmps52
        go_wp2
        go_quiet (fail)
        go_wp2
        go_quiet (fail)
        go_wp2
        go_ret
        exact ⟨rfl, h.set1 (r.at_ + n), only_drewN (only_setCell (only_drewN (World.grownBy.refl _ _) _) (.inl rfl) _) _⟩
  · have hb0 := bne0 h0
    have e : rdRaw r n = (ByteArray.empty, r) := by unfold rdRaw; simp [h0]
    rw [e]
    go_enter Tryz.func52, Tryz.ntmps52
    go_wp2
    go_ret
    exact ⟨rfl, h, World.grownBy.refl _ _⟩

set_option maxRecDepth 100000 in
theorem qend_any (b : Nat) (r : Rd) (w : World) (h : Qdr w b r) (ho : r.ok) :
    Calls Tryz.prog 54 #[.pointer (some ⟨b, 0, none⟩)] w fun e w' => e = .returned (.int .i64 (rdEnd r).e) ∧ Qdr w' b (rdEnd r) ∧ w.grownBy w' (some b) := by
  obtain ⟨ho1, ho2⟩ := ho
  have c2 := h.c2
  have c0 := h.c0
  have c1 := h.c1
  have f2 := h.f2
  by_cases h0 : r.e = 0
  · have hb0 : (r.e == 0) = true := by simpa using h0
    by_cases hlt : r.at_ < r.s.size
    · have HX : Hid (rdEnd r = { r with e := 4 }) := if_pos ⟨h0, hlt⟩
      have hd : decide (r.at_ < r.s.size) = true := by simpa using hlt
      clear h0
      go_enter Tryz.func54, Tryz.ntmps54
      go_wp2
      go_quiet (fail)
      go_wp2
      go_ret
      rw [HX.out]
      exact ⟨rfl, h.set2 4, only_setCell (only_drewN (World.grownBy.refl _ _) _) (.inl rfl) _⟩
    · have HX : Hid (rdEnd r = r) := if_neg (by omega)
      have hd : decide (r.at_ < r.s.size) = false := by simpa using hlt
      clear h0
      go_enter Tryz.func54, Tryz.ntmps54
      go_wp2
      go_quiet (fail)
      go_wp2
      go_ret
      rw [HX.out]
      exact ⟨rfl, h, (only_drewN (World.grownBy.refl _ _) _)⟩
  · have hb0 : (r.e == 0) = false := by simpa using h0
    have HX : Hid (rdEnd r = r) := if_neg (by omega)
    go_enter Tryz.func54, Tryz.ntmps54
    go_wp2
    go_quiet (fail)
    go_wp2
    go_ret
    rw [HX.out]
    exact ⟨rfl, h, (only_drewN (World.grownBy.refl _ _) _)⟩
end Go.Proofs.YtmcgaaihdjpdgaaGreatDoor
/- The walks through the reference's reader: Num and what stands on it. -/
namespace Go.Proofs.YtmcgaaihdjpdgaaGreatDoor
open Go.RowKit

theorem qbyte_to (b : Nat) (r : Rd) (c : Nat) (r1 : Rd) (w : World) (h : Qdr w b r) (ho : r.ok) (hx : Hid (rdByte r = (c, r1))) :
    Calls Tryz.prog 82 #[.pointer (some ⟨b, 0, none⟩)] w fun e w' => e = .returned (.int .i64 c) ∧ Qdr w' b r1 ∧ w.grownBy w' (some b) := by
  have := qbyte_any b r w h ho
  rw [hx.out] at this
  exact this

theorem pow128_le {i : Nat} (hi : i ≤ 8) : 128 ^ i ≤ 72057594037927936 := by
  have h2 : 128 ^ i ≤ 128 ^ 8 := Nat.pow_le_pow_right (by omega) hi
  have e8 : 128 ^ 8 = 72057594037927936 := by decide
  omega
theorem num_mul {c u i : Nat} (hi : i ≤ 8) (hu : Hid (u = 128 ^ i)) (h8 : i = 8 → c ≤ 63) : c % 128 * u ≤ 4611686018427387904 - u := by
  by_cases h : i = 8
  · have e8 : 128 ^ 8 = 72057594037927936 := by decide
    have hu' := hu.out
    subst h
    rw [e8] at hu'
    subst hu'
    have := h8 rfl
    omega
  · have h1 : 128 ^ i ≤ 128 ^ 7 := Nat.pow_le_pow_right (by omega) (by omega)
    have e7 : 128 ^ 7 = 562949953421312 := by decide
    have hu' := hu.out
    have h2 : c % 128 * u ≤ 127 * u := Nat.mul_le_mul_right _ (by omega)
    omega

set_option maxHeartbeats 2000000 in
set_option maxRecDepth 100000 in
theorem qnum_any (b : Nat) (r : Rd) (w : World) (h : Qdr w b r) (ho : r.ok) :
    Calls Tryz.prog 51 #[.pointer (some ⟨b, 0, none⟩)] w fun e w' => e = .returned (.int .i64 (rdNum r).1) ∧ Qdr w' b (rdNum r).2 ∧ w.grownBy w' (some b) := by
  go_enter Tryz.func51, Tryz.ntmps51
  go_wp2
  go_loopw [3, 4, 5] (fun v3 v4 v5 wr => ∃ (i n u : Nat) (st : Rd), i ≤ 8 ∧ n < u ∧ u ≤ 72057594037927936 ∧ v3 = .int .i64 n ∧ v4 = .int .i64 u ∧ v5 = .int .i64 i ∧ Qdr wr b st ∧ st.ok ∧ w.grownBy wr (some b) ∧ Hid (u = 128 ^ i) ∧ Hid (rdNumGo (9 - i) i n st = rdNum r)) (fun _ _ v5 _ => 9 - (intOf v5).toNat)
  case atStart => exact ⟨0, 0, 1, r, by omega, by omega, by omega, rfl, rfl, rfl, h, ho, World.grownBy.refl _ _, rfl, rfl⟩
  case round =>
    obtain ⟨i, n, u, st, hi, hn, hu, rfl, rfl, rfl, hr, ho', hg, HU, HE⟩ := hrel
    obtain ⟨c, st1, hx0⟩ : ∃ c st1, rdByte st = (c, st1) := ⟨_, _, rfl⟩
    have hc : c < 256 := by have := rdByte_lt st; rw [hx0] at this; exact this
    have ho1 : st1.ok := by have := rdByte_ok ho'; rw [hx0] at this; exact this
    have hx : Hid (rdByte st = (c, st1)) := hx0
    have HE2 : rdNum r = (if st1.e ≠ 0 then (0, st1) else if (i = 8 ∧ 63 < c) ∨ (0 < i ∧ c = 0) then (0, { st1 with e := 5 })
        else if c < 128 then (n + c % 128 * 128 ^ i, st1) else rdNumGo (9 - (i + 1)) (i + 1) (n + c % 128 * 128 ^ i) st1) := by
      rw [← HE.out, show 9 - i = (9 - (i + 1)) + 1 by omega, rdNumGo, hx0]
    rw [← HU.out] at HE2
    clear hx0
    by_cases h0 : st1.e = 0
    · have hb0 := beq0 h0
      rw [if_neg (by simp [h0])] at HE2
      clear h0
      by_cases hbad : (i = 8 ∧ 63 < c) ∨ (0 < i ∧ c = 0)
      · rw [if_pos hbad] at HE2
        have HX := Lib.hid HE2
        clear HE2 HE
        have hbad' : (0 < i ∧ c ≤ 0) ∨ (0 < i ∧ 0 < c ∧ 8 ≤ i ∧ 63 < c) := by omega
        clear hbad
        rcases hbad' with ⟨hb1, hb2⟩ | ⟨hb1, hb2, hb3, hb4⟩
        · obtain rfl : c = 0 := by omega
          go_wp2_with (go_at_call 82; refine (qbyte_to b st 0 st1 _ hr ho' hx).mono ?_; rintro e w1 ⟨rfl, h1, g1⟩; have c2 := h1.c2; have f2 := h1.f2)
          go_ret
          rw [HX.out]
          exact ⟨rfl, h1.set2 5, only_setCell (only_trans hg g1) (.inl rfl) _⟩
        · have hci : ((c : Int) == 0) = false := by simp; omega
          obtain rfl : i = 8 := by omega
          go_wp2_with (go_at_call 82; refine (qbyte_to b st c st1 _ hr ho' hx).mono ?_; rintro e w1 ⟨rfl, h1, g1⟩; have c2 := h1.c2; have f2 := h1.f2)
          go_ret
          rw [HX.out]
          exact ⟨rfl, h1.set2 5, only_setCell (only_trans hg g1) (.inl rfl) _⟩
      · rw [if_neg hbad] at HE2
        have HX := Lib.hid HE2
        clear HE2 HE
        have hp := num_mul (c := c) hi HU (by omega)
        obtain ⟨p, hpe⟩ : ∃ p, c % 128 * u = p := ⟨_, rfl⟩
        have hm : wrap64 ((c : Int) % 128 * (u : Int)) = (p : Int) := by
          have e : (c : Int) % 128 * (u : Int) = (p : Int) := by rw [← hpe]; push_cast; rfl
          rw [e]
          exact IntWalk.wrap64_in _ ⟨by omega, by omega⟩
        have hnx : n + p < u * 128 := by
          have h2 : c % 128 * u ≤ 127 * u := Nat.mul_le_mul_right _ (by omega)
          omega
        have HPE := Lib.hid hpe
        rw [hpe] at hp
        clear hpe
        have h7 : i ≤ 0 ∨ (0 < i ∧ i < 8 ∧ 0 < c) ∨ (8 ≤ i ∧ c ≤ 63 ∧ 0 < c) := by omega
        clear hbad
        by_cases hlt : c < 128
        · rcases h7 with h7 | ⟨h71, h72, h73⟩ | ⟨h71, h72, h73⟩
          rotate_left
          all_goals
            try have hci : ((c : Int) == 0) = false := by simp; omega
            go_wp2_with (go_at_call 82; refine (qbyte_to b st c st1 _ hr ho' hx).mono ?_; rintro e w1 ⟨rfl, h1, g1⟩; have c2 := h1.c2; have f2 := h1.f2)
            go_ret
            rw [HX.out, if_pos hlt, HPE.out]
            exact ⟨by go_num, by assumption, only_trans hg (by assumption)⟩
        · have hu2 : i < 8 → u * 128 ≤ 72057594037927936 := fun h => by
            have := pow128_le (i := i + 1) (by omega)
            rw [Nat.pow_succ, ← HU.out] at this
            exact this
          rcases h7 with h7 | ⟨h71, h72, h73⟩ | ⟨h71, h72, h73⟩
          rotate_right
          · omega
          all_goals
            have hu3 := hu2 (by omega)
            clear hu2
            have hci : ((c : Int) == 0) = false := by simp; omega
            go_wp2_with (go_at_call 82; refine (qbyte_to b st c st1 _ hr ho' hx).mono ?_; rintro e w1 ⟨rfl, h1, g1⟩; have c2 := h1.c2; have f2 := h1.f2)
            go_roundw
            case rel => exact ⟨i + 1, n + p, u * 128, st1, by omega, hnx, hu3, by go_num, by go_num, by go_num, by assumption, ho1, only_trans hg (by assumption), (by show u * 128 = 128 ^ (i + 1); rw [Nat.pow_succ, HU.out]), by have := HX.out; rw [if_neg hlt, HPE.out] at this; exact this.symm⟩
            case measure => simp [intOf]; omega
    · have hb0 := bne0 h0
      rw [if_pos h0] at HE2
      have HX := Lib.hid HE2
      clear HE2 HE
      go_wp2_with (go_at_call 82; refine (qbyte_to b st c st1 _ hr ho' hx).mono ?_; rintro e w1 ⟨rfl, h1, g1⟩; have c2 := h1.c2; have f2 := h1.f2)
      go_ret
      rw [HX.out]
      exact ⟨rfl, h1, only_trans hg g1⟩
end Go.Proofs.YtmcgaaihdjpdgaaGreatDoor
/- The walks through the reference's reader: Count, Text, Signed, and its lists. -/
namespace Go.Proofs.YtmcgaaihdjpdgaaGreatDoor
open Go.RowKit


set_option maxRecDepth 100000 in
theorem qcount_any (b : Nat) (r : Rd) (most : Int) (w : World) (h : Qdr w b r) (ho : r.ok) :
    Calls Tryz.prog 49 #[.pointer (some ⟨b, 0, none⟩), .int .i64 most] w fun e w' => e = .returned (.int .i64 (rdCount r most).1) ∧ Qdr w' b (rdCount r most).2 ∧ w.grownBy w' (some b) := by
  have hc := qnum_any b r w h ho
  obtain ⟨n, r1, hx⟩ : ∃ n r1, rdNum r = (n, r1) := ⟨_, _, rfl⟩
  have HX : rdCount r most = if r1.e = 0 ∧ most < n then (0, { r1 with e := 4 }) else (n, r1) := by unfold rdCount; rw [hx]
  rw [hx] at hc
  simp only [] at hc
  have HC := Lib.hid hc
  clear hc hx
  by_cases h0 : r1.e = 0
  · have hb0 : (r1.e == 0) = true := by simpa using h0
    by_cases hlt : most < n
    · rw [if_pos ⟨h0, hlt⟩] at HX
      have HX := Lib.hid HX
      clear h0
      go_enter Tryz.func49, Tryz.ntmps49
      go_wp2_with (go_at_call 51; refine HC.out.mono ?_; rintro e w1 ⟨rfl, h1, g1⟩; have c2 := h1.c2; have f2 := h1.f2)
      go_ret
      rw [HX.out]
      exact ⟨rfl, h1.set2 4, only_setCell g1 (.inl rfl) _⟩
    · rw [if_neg (by omega)] at HX
      have HX := Lib.hid HX
      clear h0
      go_enter Tryz.func49, Tryz.ntmps49
      go_wp2_with (go_at_call 51; refine HC.out.mono ?_; rintro e w1 ⟨rfl, h1, g1⟩; have c2 := h1.c2; have f2 := h1.f2)
      go_ret
      rw [HX.out]
      exact ⟨rfl, h1, g1⟩
  · have hb0 : (r1.e == 0) = false := by simpa using h0
    rw [if_neg (by omega)] at HX
    have HX := Lib.hid HX
    go_enter Tryz.func49, Tryz.ntmps49
    go_wp2_with (go_at_call 51; refine HC.out.mono ?_; rintro e w1 ⟨rfl, h1, g1⟩; have c2 := h1.c2; have f2 := h1.f2)
    go_ret
    rw [HX.out]
    exact ⟨rfl, h1, g1⟩

set_option maxRecDepth 100000 in
theorem qtext_any (b : Nat) (r : Rd) (most : Int) (w : World) (h : Qdr w b r) (ho : r.ok) :
    Calls Tryz.prog 50 #[.pointer (some ⟨b, 0, none⟩), .int .i64 most] w fun e w' => e = .returned (.string (rdText r most).1) ∧ Qdr w' b (rdText r most).2 ∧ w.grownBy w' (some b) := by
  have hc := qcount_any b r most w h ho
  have hle := rdCount_le r most
  have ho1 := rdCount_ok (m := most) ho
  unfold rdText
  obtain ⟨n, r1, hx⟩ : ∃ n r1, rdCount r most = (n, r1) := ⟨_, _, rfl⟩
  rw [hx] at hc hle ho1 ⊢
  simp only [] at hc hle ho1 ⊢
  have HC := Lib.hid hc
  clear hc hx
  go_enter Tryz.func50, Tryz.ntmps50
  go_wp2_with (first | (go_at_call 49; refine HC.out.mono ?_; rintro e w1 ⟨rfl, h1, g1⟩) | (go_at_call 52; refine (qraw_any _ _ _ _ (by assumption) ho1 (by omega) (by omega)).mono ?_; rintro e w2 ⟨rfl, h2, g2⟩))
  go_ret
  exact ⟨rfl, h2, only_trans g1 g2⟩


end Go.Proofs.YtmcgaaihdjpdgaaGreatDoor
/- Lists of numbers and of texts as bytes: plain lemmas, no program in sight. -/
namespace Go.Proofs.YtmcgaaihdjpdgaaGreatDoor
open Go.RowKit

/-- A text's bytes, behind its length. -/
def txtS (s : ByteArray) : ByteArray := if 1048576 < s.size then ByteArray.empty else numS s.size ++ s
def txtE (s : ByteArray) : Int := if 1048576 < s.size then 4 else 0
theorem numS_len {n : Nat} (h : n ≤ 4611686018427387903) : (numS n).size = (numL n).length := by
  rw [numS_ok (by omega) (by omega), ba_size]
  rfl
theorem numS_list {n : Nat} (h : n ≤ 4611686018427387903) : (numS n).data.toList = numL n := by
  rw [numS_ok (by omega) (by omega)]
  rfl
theorem txt_no {s : ByteArray} (h : 1048576 < s.size) : txtS s = ByteArray.empty ∧ txtE s = 4 := ⟨if_pos h, if_pos h⟩
theorem txt_ok {s : ByteArray} (h : ¬ 1048576 < s.size) : txtS s = numS s.size ++ s ∧ txtE s = 0 := ⟨if_neg h, if_neg h⟩
theorem txtS_list {s : ByteArray} (h : ¬ 1048576 < s.size) : (txtS s).data.toList = numL s.size ++ s.data.toList := by
  rw [(txt_ok h).1, ByteArray.data_append, Array.toList_append, numS_list (by omega)]

/-- One element's bytes, and the error it brings; of the elements, each by itself. -/
def NumOk (x : Int) : Prop := 0 ≤ x ∧ x ≤ 4611686018427387903
instance (x : Int) : Decidable (NumOk x) := by unfold NumOk; infer_instance
def numB (x : Int) : List UInt8 := numL x.toNat
def TxtOk (s : ByteArray) : Prop := s.size ≤ 1048576
instance (s : ByteArray) : Decidable (TxtOk s) := by unfold TxtOk; infer_instance
def txtB (s : ByteArray) : List UInt8 := numL s.size ++ s.data.toList

theorem numok_S {x : Int} (h : NumOk x) : numS x = ⟨(numB x).toArray⟩ ∧ numE x = 0 := ⟨numS_ok h.1 h.2, numE_ok h.1 h.2⟩
theorem numok_no {x : Int} (h : ¬ NumOk x) : numS x = ByteArray.empty ∧ numE x = 2 := by
  unfold NumOk at h
  exact ⟨numS_no (by omega), numE_no (by omega)⟩
theorem txtok_S {s : ByteArray} (h : TxtOk s) : (txtS s).data.toList = txtB s ∧ txtE s = 0 := by
  unfold TxtOk at h
  exact ⟨txtS_list (by omega), (txt_ok (by omega)).2⟩
theorem txtok_no {s : ByteArray} (h : ¬ TxtOk s) : txtS s = ByteArray.empty ∧ txtE s = 4 := by
  unfold TxtOk at h
  exact txt_no (by omega)

/-- A list's bytes behind its count. -/
def listL {α : Type} (g : α → List UInt8) (l : List α) : List UInt8 := numL l.length ++ l.flatMap g
theorem listL_snoc {α : Type} (g : α → List UInt8) {l : List α} {k n : Nat} {x : α} (hx : l[k]? = some x) : numL n ++ (l.take k).flatMap g ++ g x = numL n ++ (l.take (k + 1)).flatMap g := by
  obtain ⟨hk, rfl⟩ := List.getElem?_eq_some_iff.1 hx
  rw [List.take_succ_eq_append_getElem hk, List.flatMap_append, List.append_assoc]
  simp
theorem numB_len {x : Int} (h : NumOk x) : (numB x).length ≤ 9 := numL_len _ (by have := h.1; have := h.2; omega)
theorem txtB_len {s : ByteArray} (h : TxtOk s) : (txtB s).length ≤ 1048585 := by
  unfold TxtOk at h
  have := numL_len s.size (by omega)
  unfold txtB
  rw [List.length_append, ← ba_size]
  omega
theorem flat_len {α : Type} (g : α → List UInt8) (c : Nat) : ∀ (l : List α), (∀ x ∈ l, (g x).length ≤ c) → (l.flatMap g).length ≤ l.length * c
  | [], _ => by simp
  | x :: l, h => by
    have h1 := h x (by simp)
    have h2 := flat_len g c l (fun y hy => h y (by simp [hy]))
    simp only [List.flatMap_cons, List.length_append, List.length_cons]
    rw [Nat.add_mul]
    omega
/-- What a list's bytes are, and the error: 'e' of the first element that may not be. -/
def listR {α : Type} (ok : α → Prop) [DecidablePred ok] (g : α → List UInt8) (e : Int) (l : List α) : ByteArray × Int :=
  if ∀ x ∈ l, ok x then (⟨(listL g l).toArray⟩, 0) else (ByteArray.empty, e)
theorem listR_no {α : Type} {ok : α → Prop} [DecidablePred ok] {g : α → List UInt8} {e : Int} {l : List α} {k : Nat} {x : α} (hx : l[k]? = some x) (h : ¬ ok x) : listR ok g e l = (ByteArray.empty, e) :=
  if_neg fun hh => h (hh x (List.mem_of_getElem? hx))
theorem listR_ok {α : Type} {ok : α → Prop} [DecidablePred ok] {g : α → List UInt8} {e : Int} {l : List α} (h : ∀ x ∈ l, ok x) : listR ok g e l = (⟨(listL g l).toArray⟩, 0) := if_pos h
theorem all_snoc {α : Type} {ok : α → Prop} {l : List α} {k : Nat} {x : α} (hx : l[k]? = some x) (h : ∀ y ∈ l.take k, ok y) (h' : ok x) : ∀ y ∈ l.take (k + 1), ok y := by
  obtain ⟨hk, rfl⟩ := List.getElem?_eq_some_iff.1 hx
  intro y hy
  rw [List.take_succ_eq_append_getElem hk, List.mem_append, List.mem_singleton] at hy
  rcases hy with hy | rfl
  · exact h y hy
  · exact h'
theorem take_whole {α : Type} {l : List α} {k : Nat} (h : l.length ≤ k) : l.take k = l := List.take_of_length_le h
end Go.Proofs.YtmcgaaihdjpdgaaGreatDoor
