/- The walks through the reference's reader. -/
import Derived.Test.YtlfennooocmclaaDoorRdMore
namespace Go.Proofs.YtlfennooocmclaaDoor
open Go.RowKit

/-- Block b is a reader (of the reference) in this state. -/
def Qdr (w : World) (b : Nat) (r : Rd) : Prop := Blk w b 90 #[.string r.s, .int .i64 r.at_, .int .i64 r.e]
section
variable {w w' : World} {b : Nat} {r : Rd}
theorem Qdr.c0 (h : Qdr w b r) : w.cell? ⟨b, 0, none⟩ = some (.string r.s) := Blk.cell h 0
theorem Qdr.c1 (h : Qdr w b r) : w.cell? ⟨b, 1, none⟩ = some (.int .i64 r.at_) := Blk.cell h 1
theorem Qdr.c2 (h : Qdr w b r) : w.cell? ⟨b, 2, none⟩ = some (.int .i64 r.e) := Blk.cell h 2
theorem Qdr.f1 (h : Qdr w b r) : w.frozen? ⟨b, 1, none⟩ = false := Blk.frozen h 1
theorem Qdr.f2 (h : Qdr w b r) : w.frozen? ⟨b, 2, none⟩ = false := Blk.frozen h 2
theorem Qdr.set1 (h : Qdr w b r) (n : Nat) : Qdr (w.setCell ⟨b, 1, none⟩ (.int .i64 n)) b { r with at_ := n } := Blk.set_ h 1 _
theorem Qdr.set2 (h : Qdr w b r) (e : Int) : Qdr (w.setCell ⟨b, 2, none⟩ (.int .i64 e)) b { r with e := e } := Blk.set_ h 2 _
end

set_option maxRecDepth 100000 in
theorem qbyte_any (b : Nat) (r : Rd) (w : World) (h : Qdr w b r) (ho : r.ok) :
    Calls Tryd.prog 79 #[.pointer (some ⟨b, 0, none⟩)] w fun e w' => e = .returned (.int .i64 (rdByte r).1) ∧ Qdr w' b (rdByte r).2 ∧ w.grownBy w' (some b) := by
  obtain ⟨ho1, ho2⟩ := ho
  have c2 := h.c2
  by_cases h0 : r.e = 0
  · have hb0 := beq0 h0
    have c0 := h.c0
    have c1 := h.c1
    have f1 := h.f1
    have f2 := h.f2
    by_cases hlt : r.at_ < r.s.size
    · have e : rdByte r = ((r.s[r.at_]).toNat, { r with at_ := r.at_ + 1 }) := by unfold rdByte; simp [h0, hlt]
      rw [e]
      have H0 := Lib.hid h0
      clear h0 e
      have hne : decide ((r.s.size : Int) ≤ (r.at_ : Int)) = false := by simp; omega
      have hbd : (r.s[r.at_]).toNat < 256 := UInt8.toNat_lt _
      go_enter Tryd.func79, Tryd.ntmps79
      go_wp2
      go_quiet (fail)
      go_wp2
      go_quiet (fail)
      go_wp2
      go_ret
      exact ⟨rfl, h.set1 (r.at_ + 1), only_drewN (only_setCell (only_drewN (World.grownBy.refl _ _) _) (.inl rfl) _) _⟩
    · have e : rdByte r = (0, { r with e := 3 }) := by unfold rdByte; simp [h0, hlt]
      rw [e]
      have H0 := Lib.hid h0
      clear h0 e
      go_enter Tryd.func79, Tryd.ntmps79
      go_wp2
      go_quiet (fail)
      go_wp2
      go_ret
      exact ⟨rfl, h.set2 3, only_setCell (only_drewN (World.grownBy.refl _ _) _) (.inl rfl) _⟩
  · have hb0 := bne0 h0
    have e : rdByte r = (0, r) := by unfold rdByte; simp [h0]
    rw [e]
    go_enter Tryd.func79, Tryd.ntmps79
    go_wp2
    go_ret
    exact ⟨rfl, h, World.grownBy.refl _ _⟩

set_option maxRecDepth 100000 in
theorem qraw_any (b : Nat) (r : Rd) (n : Int) (w : World) (h : Qdr w b r) (ho : r.ok) (hn0 : -9223372036854775808 ≤ n) (hn1 : n ≤ 9223372036854775807) :
    Calls Tryd.prog 78 #[.pointer (some ⟨b, 0, none⟩), .int .i64 n] w fun e w' => e = .returned (.string (rdRaw r n).1) ∧ Qdr w' b (rdRaw r n).2 ∧ w.grownBy w' (some b) := by
  obtain ⟨ho1, ho2⟩ := ho
  have c2 := h.c2
  by_cases h0 : r.e = 0
  · have hb0 := beq0 h0
    have c0 := h.c0
    have c1 := h.c1
    have f1 := h.f1
    have f2 := h.f2
    by_cases hn : n < 0
    · have e : rdRaw r n = (ByteArray.empty, { r with e := 1 }) := by unfold rdRaw; simp [h0, hn]
      rw [e]
      clear h0 e
      go_enter Tryd.func78, Tryd.ntmps78
      go_wp2
      go_ret
      exact ⟨rfl, h.set2 1, only_setCell (World.grownBy.refl _ _) (.inl rfl) _⟩
    · by_cases hs : (r.s.size : Int) - r.at_ < n
      · have e : rdRaw r n = (ByteArray.empty, { r with e := 3 }) := by unfold rdRaw; simp [h0, hn, hs]
        rw [e]
        clear h0 e
        go_enter Tryd.func78, Tryd.ntmps78
        go_wp2
        go_quiet (fail)
        go_wp2
        go_ret
        exact ⟨rfl, h.set2 3, only_setCell (only_drewN (World.grownBy.refl _ _) _) (.inl rfl) _⟩
      · have e : rdRaw r n = (r.s.extract r.at_ (r.at_ + n.toNat), { r with at_ := r.at_ + n.toNat }) := by unfold rdRaw; simp [h0, hn, hs]
        rw [e]
        clear h0 e
        obtain ⟨n, rfl⟩ := Int.eq_ofNat_of_zero_le (show 0 ≤ n by omega)
        rw [Int.toNat_natCast]
        go_enter Tryd.func78, Tryd.ntmps78
        go_wp2
        go_quiet (fail)
        go_wp2
        go_quiet (fail)
        go_wp2
        go_ret
        exact ⟨rfl, h.set1 (r.at_ + n), only_drewN (only_setCell (only_drewN (World.grownBy.refl _ _) _) (.inl rfl) _) _⟩
  · have hb0 := bne0 h0
    have e : rdRaw r n = (ByteArray.empty, r) := by unfold rdRaw; simp [h0]
    rw [e]
    go_enter Tryd.func78, Tryd.ntmps78
    go_wp2
    go_ret
    exact ⟨rfl, h, World.grownBy.refl _ _⟩

end Go.Proofs.YtlfennooocmclaaDoor
